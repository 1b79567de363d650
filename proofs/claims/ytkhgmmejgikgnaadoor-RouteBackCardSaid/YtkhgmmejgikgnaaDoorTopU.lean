/- The last steps of tied statements: utf8's tables, where a row lists them. -/
import Derived.Test.YtkhgmmejgikgnaaDoorTopD
import Derived.Test.YtkhgmmejgikgnaaDoorRouD
import Derived.Lib.LaidU8
import Derived.Test.YtkhgmmejgikgnaaDoorRows
namespace Go.Proofs.YtkhgmmejgikgnaaDoor
open Go.ChangeShapes Go.WideShapes Go.ChangeAt Go.RowKit

theorem hu_of {W : World} {l : List (String × DataW Unit)} (h : laidMet Tryd.prog l W) (h1 : ("unicode/utf8.first", Lib.firstData) ∈ l) (h2 : ("unicode/utf8.acceptRanges", Lib.acceptData) ∈ l) : HU (PW.all W) := by
  have ht : Lib.Utf8Tabs 0 1 W :=
    utf8Tabs_of_reads (ρ := Tryd.lays260_ren) Tryd.lays260 ⟨by kernel_rfl, by kernel_rfl, by kernel_rfl, by kernel_rfl, by kernel_rfl, by kernel_rfl, by kernel_rfl⟩ (Lib.laidMet.reads h h1) (Lib.laidMet.reads h h2)
  have lt : ∀ {g c : Nat} {v : Value}, W.cell? ⟨g, c, none⟩ = some v → g < W.heap.size := fun {g c v} hc => by
    rcases Nat.lt_or_ge g W.heap.size with h1 | h1
    · exact h1
    · unfold World.cell? at hc
      rw [Array.getElem?_eq_none h1] at hc
      cases hc
  exact ⟨lt (ht.1 0 (by decide)), lt (ht.2 0 (by decide)).1, ht⟩
theorem first_eq : (Rows.laid_unicode_utf8_first : DataW Unit) = Lib.firstData := by kernel_rfl
theorem accept_eq : (Rows.laid_unicode_utf8_acceptRanges : DataW Unit) = Lib.acceptData := by kernel_rfl
theorem rb_hu {W : World} (h : laidMetH Tryd.prog Rows.routeBackRow.laid W) : HU (PW.all W) := by
  have h2 : laidMet Tryd.prog [("unicode/utf8.acceptRanges", (Rows.laid_unicode_utf8_acceptRanges : DataW Unit)), ("unicode/utf8.first", Rows.laid_unicode_utf8_first)] W := by rw [← MakeChecks.laidMetH_plain _ _ _ (by kernel_rfl)]; exact h
  rw [first_eq, accept_eq] at h2
  exact hu_of h2 (.tail _ (.head _)) (.head _)
end Go.Proofs.YtkhgmmejgikgnaaDoor
