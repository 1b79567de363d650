/- Layer 19 (space), walked: the law's one configuration. -/
import Derived.Test.YtcgbcbdgjhnlaaaYSpaO
import Derived.Test.YtcgbcbdgjhnlaaaYStrN
import Derived.Test.YtcgbcbdgjhnlaaaYCodeSC
namespace Go.Proofs.Ytcgbcbdgjhnlaaa
open Go.RowKit

def oneT : List UInt8 := [110, 97, 109, 101, 115, 112, 97, 99, 101, 32, 100, 32, 123, 32, 114, 101, 108, 97, 116, 105, 111, 110, 32, 97, 58, 32, 117, 115, 101, 114, 59, 32, 125]
theorem one_x (W : PW) : CallsX Try.prog 77 ⟨[]⟩ [] W fun v W' => ∃ cells, v = .agg ⟨cells⟩ ∧ ConfR W' (ruleP oneT).1 cells := by
  refine pureX hmix Try.func77 r77 (by kernel_rfl) [] rfl ?_
  refine call_v rfl (fun W' _ => ruleparse_x oneT W') (fun W2 v W3 _ _ hv => ?_)
  obtain ⟨cells, rfl, hC⟩ := hv
  obtain ⟨c, hc⟩ : ∃ c, (ruleP oneT).1 = c := ⟨_, rfl⟩
  rw [hc] at hC ⊢
  have hC2 := hC
  obtain ⟨sv, kv, rfl, g1, g2⟩ := hC
  obtain ⟨A0, c0, rfl, _, _⟩ := g1.form
  obtain ⟨A1, c1, rfl, _, _⟩ := g2.form
  refine ⟨_, rfl, _, rfl, ?_⟩
  exact ret_plain rfl fun W' l => ⟨_, rfl, ConfR.mono _ _ _ _ l hC2⟩
end Go.Proofs.Ytcgbcbdgjhnlaaa

