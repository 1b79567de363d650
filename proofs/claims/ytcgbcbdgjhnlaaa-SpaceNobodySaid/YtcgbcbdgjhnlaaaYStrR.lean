/- Layer 18 (strata), walked: the law of chains. -/
import Derived.Test.YtcgbcbdgjhnlaaaYStrN
import Derived.Test.YtcgbcbdgjhnlaaaYStrQ
namespace Go.Proofs.Ytcgbcbdgjhnlaaa
open Go.RowKit

theorem smC_of {c : ConfS} (h : okCB c) (hs : smB c = true) : SmC c := by
  unfold smB at hs
  simp only [Bool.and_eq_true, Nat.ble_eq, List.all_eq_true] at hs
  obtain ⟨⟨h1, h2⟩, h3⟩ := hs
  refine ⟨fun sp hsp => ⟨(h.sp sp hsp).name, fun r hr => ?_⟩, h.sc, h1, fun sp hsp => (h3 sp hsp).1, h2⟩
  have hr2 := (h.sp sp hsp).rels r hr
  have h4 := (h3 sp hsp).2 r hr
  unfold smR at h4
  simp only [Bool.and_eq_true, Bool.or_eq_true, Nat.ble_eq, List.all_eq_true, decide_eq_true_eq] at h4
  obtain ⟨⟨h5, h6⟩, h7⟩ := h4
  refine ⟨hr2.name, h5, h6, hr2.types, fun n hn => ?_⟩
  obtain ⟨⟨h8, h9⟩, h10⟩ := h7 n hn
  exact ⟨⟨by omega, by omega⟩, fun hk => h10.elim (fun h => absurd h (by omega)) fun h => ⟨h.1.1.1, h.1.1.2, h.1.2, h.2⟩⟩
end Go.Proofs.Ytcgbcbdgjhnlaaa

