/- The last step of HttpLimits: the library's errors off the row's list. -/
import Derived.Test.YtkhgmmejgikgnaaDoorTopF
import Derived.Test.YtkhgmmejgikgnaaDoorLimB
namespace Go.Proofs.YtkhgmmejgikgnaaDoor
open Go.ChangeShapes Go.WideShapes Go.ChangeAt Go.RowKit

theorem he_li {W : World} (h : laidMetH Tryd.prog Rows.httpLimitsRow.laid W) : HE (PW.all W) := by
  have h2 : laidMet Tryd.prog Rows.httpLimitsRow.laid W := by rw [← MakeChecks.laidMetH_plain _ _ _ (by kernel_rfl)]; exact h
  have h5 : laidMet Tryd.prog (("strconv.ErrRange", Rows.laid_strconv_ErrRange) :: ("strconv.ErrSyntax", Rows.laid_strconv_ErrSyntax) :: _) W := laidMet.tail (laidMet.tail (laidMet.tail (laidMet.tail h2)))
  have h6 := laidMet.tail h5
  exact ⟨err_of h6 (by kernel_rfl) (by kernel_rfl), err_of h5 (by kernel_rfl) (by kernel_rfl)⟩
end Go.Proofs.YtkhgmmejgikgnaaDoor
