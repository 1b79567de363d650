/- How many signs are open at most: the program's own count over a text (layer 17, open), walked. -/
import Derived.Test.YtcgbcbdgjhnlaaaBldW
import Derived.WalkKit
import Derived.Lib.Walk
import Derived.Lib.RuneCount
import Derived.Laws.RangeString
import Derived.Laws.RangeAny
import Derived.LoopTactic
namespace Go.Proofs.Ytcgbcbdgjhnlaaa
open Go.RowKit

def stepO (c : Nat) (n : Int) : Int := if c = 40 then n + 1 else if c = 41 then n - 1 else n
def opnS (s : ByteArray) : Nat → Nat → Int → Int → Int
  | 0, _, _, m => m
  | b + 1, pos, n, m => if pos < s.size then opnS s b (pos + (Utf8.decode s pos).2) (stepO (Utf8.decode s pos).1 n) (max m (stepO (Utf8.decode s pos).1 n)) else m
theorem opnS_end (s : ByteArray) : ∀ (b pos : Nat) (n m : Int), ¬ pos < s.size → opnS s b pos n m = m
  | 0, _, _, _, _ => rfl
  | b + 1, pos, n, m, h => by simp only [opnS, if_neg h]

set_option maxHeartbeats 4000000 in
set_option maxRecDepth 1000000 in
theorem open_calls (s : ByteArray) (w : World) (hs : s.size < 4611686018427387904) :
    Calls Try.prog 113 #[.string s] w fun e w' => e = .returned (.int .i64 (opnS s s.size 0 0 0)) ∧ ∃ pos, w' = w.iter s pos := by
  go_enter Try.func113, Try.ntmps113
  go_wp2
  go_loopw [3, 4] (fun v3 v4 w' => ∃ (pos b : Nat) (n m : Int), w' = w.iter s pos ∧ v3 = .int .i64 n ∧ v4 = .int .i64 m ∧ opnS s b pos n m = opnS s s.size 0 0 0 ∧ s.size ≤ pos + b ∧ -(pos : Int) ≤ n ∧ n ≤ pos) (fun _ _ w' => s.size - w'.iterPos w.heap.size)
  case atStart => exact ⟨0, s.size, 0, 0, rfl, rfl, rfl, rfl, by omega, by omega, by omega⟩
  case round =>
    obtain ⟨pos, b, n, m, rfl, rfl, rfl, hc, hb, hn1, hn2⟩ := hrel
    by_cases hp : pos < s.size
    · have hnx : ∀ ty, (Instr.next (.pointer (some ⟨w.heap.size, 0, none⟩)) true ty).run Try.prog (w.iter s pos) = _ := fun ty => run_next_any w s pos ty hp
      have hwd := Lib.decode_width_pos s pos hp
      go_wp2
      all_goals go_roundw
      all_goals first
        | (case measure =>
            simp
            omega)
        | (case rel =>
            try simp only [beq_iff_eq, beq_eq_false_iff_ne, ne_eq] at *
            cases b with
            | zero => omega
            | succ b =>
              simp only [opnS, if_pos hp] at hc
              refine ⟨pos + (Utf8.decode s pos).2, b, stepO (Utf8.decode s pos).1 n, max m (stepO (Utf8.decode s pos).1 n), rfl, ?_, ?_, hc, by omega, ?_, ?_⟩
              · refine congrArg (Value.int .i64) ?_
                (unfold stepO; repeat' split) <;> omega
              · refine congrArg (Value.int .i64) ?_
                (unfold stepO; repeat' split) <;> omega
              · (unfold stepO; repeat' split) <;> omega
              · (unfold stepO; repeat' split) <;> omega)
    · have hnx : ∀ ty, (Instr.next (.pointer (some ⟨w.heap.size, 0, none⟩)) true ty).run Try.prog (w.iter s pos) = _ := fun ty => run_next_end w s pos ty hp
      go_wp2
      go_ret
      rw [opnS_end s b pos n m hp] at hc
      subst hc
      exact ⟨rfl, _, rfl⟩

def opnL (l : List UInt8) : Int := opnS ⟨⟨l⟩⟩ l.length 0 0 0
theorem opened_x (l : List UInt8) (hl : l.length < 4611686018427387904) (W : PW) : CallsX Try.prog 113 ⟨[strV l]⟩ [] W fun v _ => v = .int .i64 (opnL l) :=
  CallsX.of_at k113 ((open_calls ⟨⟨l⟩⟩ W.w hl).mono fun _ _ ⟨he, _, hw⟩ => ⟨he, hw ▸ (Below.refl _ _).alloc (Nat.le_refl _) _⟩)
end Go.Proofs.Ytcgbcbdgjhnlaaa
