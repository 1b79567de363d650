/- Requests, walked: a name in small letters (by the kit's walk: it writes to the bytes of a text). -/
import Derived.Test.YtkhgmmejgikgnaaDoorHttA
import Derived.WalkKit
import Derived.Lib.Walk
import Derived.Lib.ConvBytes
import Derived.Laws.IdiomStrings
import Derived.LoopTactic
namespace Go.Proofs.YtkhgmmejgikgnaaDoor
open Go.RowKit Go.Lib

def lowI (n : Int) : Int := if 65 ≤ n ∧ n ≤ 90 then n + 32 else n
def LowW (s : ByteArray) (w : World) (g : Nat) (w' : World) (i : Nat) : Prop :=
  Below w.heap.size w w' ∧ ∀ j, j < s.size → w'.frozen? ⟨g, j, none⟩ = false ∧ w'.cell? ⟨g, j, none⟩ = some (.int .u8 (if j < i then lowI (s.data.toList.getD j 0).toNat else (s.data.toList.getD j 0).toNat))
theorem low_byte (c : UInt8) : lowI c.toNat = ((lowC c).toNat : Int) :=
  byte_all (p := fun c => lowI c.toNat = ((lowC c).toNat : Int)) (by decide +kernel) c
theorem low_step {s : ByteArray} {w wr : World} {i : Nat} (h : LowW s w w.heap.size wr i) (hi : i < s.size) (u : Int) (hu : u = lowI (s.data.toList.getD i 0).toNat) : LowW s w w.heap.size (wr.setCell ⟨w.heap.size, i, none⟩ (.int .u8 u)) (i + 1) := by
  obtain ⟨hb, hc⟩ := h
  refine ⟨hb.setCell (Nat.le_refl _) _, fun j hj => ⟨by rw [World.frozen?_setCell]; exact (hc j hj).1, ?_⟩⟩
  by_cases hji : j = i
  · subst hji
    rw [World.cell?_setCell_same _ _ _ (hc j hj).2, if_pos (Nat.lt_succ_self j), hu]
  · rw [World.cell?_setCell_other _ _ _ _ (fun e => hji (by injection e with _ e2 _; exact e2.symm)), (hc j hj).2]
    by_cases hlt : j < i
    · rw [if_pos hlt, if_pos (by omega)]
    · rw [if_neg hlt, if_neg (by omega)]
theorem low_skip {s : ByteArray} {w wr : World} {i : Nat} (h : LowW s w w.heap.size wr i) (hu : ((s.data.toList.getD i 0).toNat : Int) = lowI (s.data.toList.getD i 0).toNat) : LowW s w w.heap.size wr (i + 1) := by
  obtain ⟨hb, hc⟩ := h
  refine ⟨hb, fun j hj => ⟨(hc j hj).1, ?_⟩⟩
  rw [(hc j hj).2]
  by_cases hji : j = i
  · subst hji
    rw [if_neg (Nat.lt_irrefl j), if_pos (Nat.lt_succ_self j)]
    exact congrArg (fun z => some (Value.int .u8 z)) hu
  · by_cases hlt : j < i
    · rw [if_pos hlt, if_pos (by omega)]
    · rw [if_neg hlt, if_neg (by omega)]
set_option maxHeartbeats 4000000 in
set_option maxRecDepth 1000000 in
theorem lowRun (s : ByteArray) (hs : s.size ≤ 1000000) (w : World) : Calls Tryd.prog 104 #[.string s] w fun e w' => e = .returned (.string ⟨(s.data.toList.map lowC).toArray⟩) ∧ Below w.heap.size w w' := by
  have hconv := Go.Lib.run_convert_string_bytes (P := Tryd.prog) w 9 33 5 s Tryd.underlying9 Tryd.underlying33 Tryd.underlying5
  have hW : LowW s w w.heap.size (Go.Lib.bytesWorld w 5 s) 0 := by
    refine ⟨⟨rfl, rfl, rfl, by rw [Go.Lib.bytesWorld_size]; exact Nat.le_succ _, fun k hk => Go.Lib.bytesWorld_at_old w _ s k hk⟩, fun j hj => ⟨?_, ?_⟩⟩
    · unfold World.frozen?
      rw [Go.Lib.bytesWorld_at_new]
      have hsz : j < (Go.Lib.bytesCells w 5 s).size := by
        have : s.size = s.data.size := rfl
        unfold Go.Lib.bytesCells
        rw [Array.size_append, Array.size_map]; omega
      simp; omega
    · rw [Go.Lib.bytesWorld_cell w _ s j hj, if_neg (Nat.not_lt_zero _)]
  generalize Go.Lib.bytesWorld w 5 s = w0 at hconv hW
  generalize grownCap w s.size 0 5 = cap at hconv
  go_enter Tryd.func104, Tryd.ntmps104
  go_wp2
  go_loopw [10] (fun v w' => ∃ i : Nat, v = .int .i64 i ∧ i ≤ s.size ∧ LowW s w w.heap.size w' i) (fun v _ => s.size - (Go.RowKit.intOf v).toNat)
  case atStart => exact ⟨0, rfl, Nat.zero_le _, hW⟩
  case round =>
    obtain ⟨i, rfl, hi, hb, hc⟩ := hrel
    by_cases hq : i < s.size
    · obtain ⟨hf, hci⟩ := hc i hq
      rw [if_neg (Nat.lt_irrefl i)] at hci
      have hq1 : (i : Int) < (s.size : Int) := by omega
      have hd : s.data[i].toNat = (s.data.toList.getD i 0).toNat := by
        rw [List.getD_eq_getElem?_getD, Array.getElem?_toList, Array.getElem?_eq_getElem hq]; rfl
      go_wp2
      all_goals (refine ⟨⟨i + 1, rfl, hq, ?_⟩, by show s.size - (i + 1) < s.size - i; omega⟩)
      · refine low_step ⟨hb, hc⟩ hq _ ?_
        unfold lowI
        rw [if_pos (by omega)]; omega
      · refine low_skip ⟨hb, hc⟩ ?_
        unfold lowI
        rw [if_neg (by omega)]
      · refine low_skip ⟨hb, hc⟩ ?_
        unfold lowI
        rw [if_neg (by omega)]
    · have hq1 : ¬ (i : Int) < (s.size : Int) := by omega
      obtain rfl : i = s.size := by omega
      have hlen : (s.data.toList.map lowC).length = s.size := List.length_map _
      have hback : (convert 33 9 (.slice (some ⟨w.heap.size, 0, none⟩) s.size cap)).run Tryd.prog wr = .ok (.string ⟨(s.data.toList.map lowC).toArray⟩) wr := by
        rw [← hlen]
        refine run_convert_bytes_back wr 33 9 5 ⟨w.heap.size, 0, none⟩ cap (s.data.toList.map lowC) Tryd.underlying33 Tryd.underlying5 Tryd.underlying9 fun j hj => ?_
        have hj' : j < s.size := by rw [← hlen]; exact hj
        obtain ⟨_, hcj⟩ := hc j hj'
        rw [if_pos hj', low_byte] at hcj
        rw [Go.WideShapes.add_plain, Nat.zero_add, hcj]
        have e : (s.data.toList.map lowC)[j] = lowC (s.data.toList.getD j 0) := by
          rw [List.getElem_map, List.getD_eq_getElem?_getD, List.getElem?_eq_getElem (by rw [List.length_map] at hj; exact hj)]; rfl
        rw [e]
      go_wp2
      go_ret
      exact ⟨rfl, hb⟩
theorem lower_x (l : List UInt8) (hl : l.length ≤ 1000000) (W : PW) : CallsX Tryd.prog 104 ⟨[strV l]⟩ [] W fun v _ => v = strV (l.map lowC) :=
  CallsX.of_at k104 (lowRun ⟨⟨l⟩⟩ hl W.w)
end Go.Proofs.YtkhgmmejgikgnaaDoor
