/- The last step of HttpFronts: the library's errors off the row's list; the walk as it is used there. -/
import Derived.Test.YtkhgmmejgikgnaaGreatDoorTopF
import Derived.Test.YtkhgmmejgikgnaaGreatDoorFrt
namespace Go.Proofs.YtkhgmmejgikgnaaGreatDoor
open Go.ChangeShapes Go.WideShapes Go.ChangeAt Go.RowKit

theorem hfronts_top (b0 : List UInt8) (n0 : Int) (m0 : List UInt8) (u1 u2 : Value) (W : PW) (hM : HM W) (hE : HE W) (h1 : RBn W u1 b0) (h2 : RBn W u2 m0) :
    CallsX Tryz.prog 3 ⟨[u1, .int .i64 n0, u2]⟩ [] W fun v _ => v = .bool true := by
  obtain ⟨A, c, rfl, hA, r1⟩ := h1
  obtain ⟨A2, c2, rfl, hA2, r2⟩ := h2
  exact hfronts_x b0 m0 n0 A A2 c c2 hA hA2 W hM hE r1 r2
theorem he_fr {W : World} (h : laidMetH Tryz.prog Rows.httpFrontsRow.laid W) : HE (PW.all W) := by
  have h2 : laidMet Tryz.prog Rows.httpFrontsRow.laid W := by rw [← MakeChecks.laidMetH_plain _ _ _ (by kernel_rfl)]; exact h
  have h5 : laidMet Tryz.prog (("strconv.ErrRange", Rows.laid_strconv_ErrRange) :: ("strconv.ErrSyntax", Rows.laid_strconv_ErrSyntax) :: _) W := laidMet.tail (laidMet.tail (laidMet.tail (laidMet.tail h2)))
  have h6 := laidMet.tail h5
  exact ⟨err_of h6 (by kernel_rfl) (by kernel_rfl), err_of h5 (by kernel_rfl) (by kernel_rfl)⟩
end Go.Proofs.YtkhgmmejgikgnaaGreatDoor
