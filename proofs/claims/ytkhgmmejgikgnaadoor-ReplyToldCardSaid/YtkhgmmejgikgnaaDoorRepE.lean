/- Layer 35 (reply): what a status is called, by the document's list. -/
import Derived.Test.YtkhgmmejgikgnaaDoorQueF
import Derived.Test.YtkhgmmejgikgnaaDoorCodeRR
import Derived.Test.YtkhgmmejgikgnaaDoorRepC
namespace Go.Proofs.YtkhgmmejgikgnaaDoor
open Go.RowKit

def partsI : Nat → List Int → List (Nat × Nat × Operand)
  | _, [] => []
  | i, z :: r => (i, 1, .const (.int .i64 z)) :: partsI (i + 1) r
def partsS : Nat → List (List UInt8) → List (Nat × Nat × Operand)
  | _, [] => []
  | i, z :: r => (i, 1, .const (strV z)) :: partsS (i + 1) r
theorem fill_I (f : Fr) : fillG f ((List.replicate 13 ([Value.int .i64 0].map PV.v)).flatten) (partsI 0 (reasonsL.map (·.1))) = some ((reasonsL.map fun p => Value.int .i64 p.1).map PV.v) := by kernel_rfl
theorem fill_S (f : Fr) : fillG f ((List.replicate 13 ([strV []].map PV.v)).flatten) (partsS 0 (reasonsL.map (·.2))) = some ((reasonsL.map fun p => strV p.2).map PV.v) := by kernel_rfl
theorem plain_I : plainCells ((reasonsL.map fun p => Value.int .i64 p.1).map PV.v) = some (reasonsL.map fun p => Value.int .i64 p.1) := by kernel_rfl
theorem plain_S : plainCells ((reasonsL.map fun p => strV p.2).map PV.v) = some (reasonsL.map fun p => strV p.2) := by kernel_rfl
theorem codes_at {i : Nat} (h : i < 13) : ∃ (z : Int) (t : List UInt8), reasonsL[i]? = some (z, t) ∧ (reasonsL.map fun p => Value.int .i64 p.1)[i]? = some (.int .i64 z) ∧ (reasonsL.map fun p => strV p.2)[i]? = some (strV t) := by
  have hl : i < reasonsL.length := h
  refine ⟨reasonsL[i].1, reasonsL[i].2, List.getElem?_eq_getElem hl, ?_, ?_⟩ <;> rw [List.getElem?_map, List.getElem?_eq_getElem hl] <;> rfl
theorem reasonF_drop {i : Nat} {s z : Int} {t : List UInt8} (h : reasonsL[i]? = some (z, t)) : reasonF (reasonsL.drop i) s = if s = z then t else reasonF (reasonsL.drop (i + 1)) s := by
  obtain ⟨hl, e⟩ := List.getElem?_eq_some_iff.1 h
  rw [List.drop_eq_getElem_cons hl, e]; rfl
attribute [local irreducible] fillG in
set_option maxHeartbeats 4000000 in
theorem refreason_x (s : Int) (W : PW) : CallsX Tryd.prog 74 ⟨[.int .i64 s]⟩ [] W fun v _ => v = strV (reasonS s) := by
  refine pureX hmix Tryd.func74 r74 (by kernel_rfl) [.int .i64 s] rfl ?_
  conv => whnf
  generalize hf : fillG _ _ _ = o
  obtain rfl : o = some _ := hf.symm.trans (fill_I _)
  clear hf
  refine ⟨rfl, .inl fun g1 W1 l1 hr1 => ?_⟩
  conv => whnf
  generalize hf : fillG _ _ _ = o
  obtain rfl : o = some _ := hf.symm.trans (fill_S _)
  clear hf
  refine ⟨rfl, .inl fun g2 W2 l2 hr2 => ?_⟩
  have hr1 : Rds W1 ⟨g1, 0, none⟩ (reasonsL.map fun p => Value.int .i64 p.1) := hr1
  have hr2 : Rds W2 ⟨g2, 0, none⟩ (reasonsL.map fun p => strV p.2) := hr2
  refine ⟨Nat, fun i => [(5, .v (.int .i64 i))], fun _ => [], fun _ => [], fun i _ => i ≤ 13 ∧ reasonS s = reasonF (reasonsL.drop i) s, fun i => 13 - i, 0,
    all_sl ⟨rfl, trivial⟩, rfl, ole_refl _, ⟨Nat.zero_le _, rfl⟩, loopOK (fun _ => ⟨⟨trivial, rfl⟩, trivial⟩) (fun _ => rfl) (fun _ => rfl), ?_⟩
  intro i W3 l3 ⟨hi, hs⟩ fr
  refine ⟨rfl, br_split (fun hq => ?_) (fun hq => ?_)⟩
  · have hq : (i : Int) < 13 := hq
    obtain ⟨z, t, e1, e2, e3⟩ := codes_at (i := i) (by omega)
    rw [reasonF_drop e1] at hs
    have k1 := (hr1 i _ e2).mono (l2.trans l3)
    have k2 := (hr2 i _ e3).mono l3
    refine ⟨⟨by omega, hq⟩, _, rfl, .int .i64 z, .inl (by rw [Nat.mul_one]; exact k1), rfl, ?_⟩
    apply br_split
    · intro h
      have h : z = s := h
      refine ⟨⟨by omega, hq⟩, _, rfl, strV t, .inl (by rw [Nat.mul_one]; exact k2), ret_plain rfl fun _ _ => ?_⟩
      rw [hs, if_pos h.symm]
    · intro h
      have h : ¬ z = s := h
      rw [if_neg (fun e => h e.symm)] at hs
      exact ⟨rfl, _, (i64_in ((i : Int) + 1) ⟨by omega, by omega⟩).symm, i + 1, all_sl ⟨rfl, trivial⟩, rfl, ole_refl _, ⟨by omega, hs⟩, by dsimp only; omega⟩
  · have hq : ¬ (i : Int) < 13 := hq
    obtain rfl : i = 13 := by omega
    exact ret_plain rfl fun _ _ => by rw [hs]; rfl
end Go.Proofs.YtkhgmmejgikgnaaDoor
