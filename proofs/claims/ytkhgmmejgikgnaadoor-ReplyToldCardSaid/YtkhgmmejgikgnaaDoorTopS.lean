/- The last step of ReplyTold: the library's table, which the row lists among others. -/
import Derived.Test.YtkhgmmejgikgnaaDoorTopR
import Derived.Test.YtkhgmmejgikgnaaDoorRepR
namespace Go.Proofs.YtkhgmmejgikgnaaDoor
open Go.ChangeShapes Go.WideShapes Go.ChangeAt Go.RowKit

theorem ht_of2 {W : World} {rest : List (String × DataW Unit)} (h : laidMet Tryd.prog (("internal/strconv.uint64pow10", Lib.tabData .u64 Lib.pow10Tab) :: rest) W) : HT (PW.all W) := by
  have hg : Tryd.prog.globalNamed "internal/strconv.uint64pow10" = some 5 := by kernel_rfl
  have ht : Lib.TabIs Tryd.prog W "internal/strconv.uint64pow10" .u64 Lib.pow10Tab := Lib.tabIs_of_head (g := 5) (t := 216) (e := 147) (n := 20) hg (by kernel_rfl) Tryd.underlying216 Tryd.underlying147 (by kernel_rfl) (by kernel_rfl) h
  refine ⟨?_, ht⟩
  show 5 < W.heap.size
  rcases Nat.lt_or_ge 5 W.heap.size with h1 | h1
  · exact h1
  · unfold Lib.TabIs World.var? at ht
    rw [hg] at ht
    simp only [Option.bind_some] at ht
    rw [Array.getElem?_eq_none h1] at ht
    cases ht
theorem rt_ht {W : World} (h : laidMetH Tryd.prog Rows.replyToldRow.laid W) : HT (PW.all W) := by
  have h2 : laidMet Tryd.prog Rows.replyToldRow.laid W := by rw [← MakeChecks.laidMetH_plain _ _ _ (by kernel_rfl)]; exact h
  have h3 : laidMet Tryd.prog (("internal/strconv.uint64pow10", Rows.laid_internal_strconv_uint64pow10) :: _) W := laidMet.tail (laidMet.tail h2)
  have e : (Rows.laid_internal_strconv_uint64pow10 : DataW Unit) = Lib.tabData .u64 Lib.pow10Tab := by kernel_rfl
  rw [e] at h3
  exact ht_of2 h3
end Go.Proofs.YtkhgmmejgikgnaaDoor
