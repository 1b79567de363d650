/- Small functions of the statements, walked. -/
import Derived.Test.YtcgbcbdgjhnlaaaCodeS
import Derived.Test.YtcgbcbdgjhnlaaaMore
namespace Go.Proofs.Ytcgbcbdgjhnlaaa
open Go.RowKit
theorem short_x (s : List UInt8) (n : Nat) (W : PW) : CallsX Try.prog 21 ⟨[strV s, .int .i64 n]⟩ [] W fun v _ => v = strV (s.take n) := by
  refine pureX hmix Try.func21 r21 (by kernel_rfl) [strV s, .int .i64 n] rfl ?_
  refine ⟨rfl, br_split (fun h => ?_) (fun h => ?_)⟩
  · have h : (n : Int) < s.length := h
    refine ⟨⟨by omega, by omega, show (n : Int) ≤ s.length by omega⟩, ret_plain rfl fun _ _ => rfl⟩
  · have h : ¬ (n : Int) < s.length := h
    refine ret_plain rfl fun _ _ => ?_
    rw [List.take_of_length_le (by omega)]; rfl
theorem within_x (x : Int) (lo hi : Int) (W : PW) : CallsX Try.prog 24 ⟨[.int .i64 x, .int .i64 lo, .int .i64 hi]⟩ [] W fun v _ => v = .int .i64 (if x < lo then lo else if hi < x then hi else x) := by
  refine pureX hmix Try.func24 r24 (by kernel_rfl) [.int .i64 x, .int .i64 lo, .int .i64 hi] rfl ?_
  refine ⟨rfl, br_split (fun h => ?_) (fun h => ?_)⟩
  · exact ret_plain rfl fun _ _ => by simp [h]
  refine ⟨rfl, br_split (fun h2 => ?_) (fun h2 => ?_)⟩ <;> exact ret_plain rfl fun _ _ => by simp [h, h2]
end Go.Proofs.Ytcgbcbdgjhnlaaa
