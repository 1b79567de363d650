/- RuleParses: for every input the law returns true and leaves its arguments as they were. No condition. -/
import Derived.Test.YtcgbcbdgjhnlaaaTop
import Derived.Test.YtcgbcbdgjhnlaaaPH
namespace Go.Proofs.Ytcgbcbdgjhnlaaa
open Go.ChangeShapes Go.WideShapes Go.ChangeAt Go.RowKit
open Go.ChangeMaps (open_string shut_string)

set_option maxRecDepth 100000 in
theorem ruleParses_lifted (os : Os) (started : os.Started) (H : Type) (enc : TypeId × Value → H) :
    ReturnsInHanded {} Try.checked os 11 .any (Rows.ruleParsesSpec.pre6 enc Try.prog Try.f11 Rows.ruleParsesRow.domain false) (Rows.ruleParsesSpec.post enc Try.prog Try.f11 false true false false) := by
  refine returnsInHanded_of_change (C := Try.checked) Try.own started (by kernel_rfl) Try.func11
    (ChangeSpec.witness6 (enc := enc) (C := Try.checked) false ⟨#[], #[.string ⟨#[]⟩], []⟩ 8 (by kernel_rfl) (by kernel_rfl) (by kernel_rfl) (by kernel_rfl)) ?_
  intro W base args ds gs before hval0 hW hcnd _
  have hval : ∀ (j : Nat) t v, Try.f11.params[j]? = some t → args[j]? = some v → Value.okWide Try.prog W .any base t v := hval0
  have hW' := hW
  obtain ⟨p, q, hA0, hV, rfl, hfz, hnd⟩ := hW
  have hA : DataW.TrodAll enc Try.prog W 0 (fun _ => true) true Try.f11.params.toList args.toList ds p := hA0
  rw [Try.params11] at hA hval
  obtain ⟨v0, d0, rfl, rfl, h0⟩ := trodAll_one hA
  obtain ⟨rfl, rfl⟩ := trodVars_none hV
  obtain ⟨a, rfl, rfl, rfl, wa⟩ := open_string Try.underlying9 (hval 0 9 v0 rfl rfl) h0
  clear hA0 hval0
  simp only [List.append_nil] at hW'
  refine (top_calls (ruleparses_x a.data.toList (PW.all W))).mono fun e W' ⟨he, hw⟩ => ?_
  subst he
  exact ⟨_, rfl, post_of_below (pa := []) (pv := []) hW' (fun _ _ _ => trodAll_mk1 (shut_bool Try.underlying4 true)) (fun sp _ => trodAll_mk1 (shut_string Try.underlying9 wa)) (fun _ _ => rfl) rfl
    hw (ok_one (by kernel_rfl) rfl (okWide_bool_mk Try.underlying4 true))⟩

set_option maxRecDepth 100000 in
set_option maxHeartbeats 0 in
theorem ruleParses_facts : joinedFacts Try.prog 11 Try.f11 Rows.ruleParsesSpec Rows.ruleParsesRow = true := by
  unfold joinedFacts
  refine Bool.and_eq_true_iff.2 ⟨?_, by as_aux_lemma => kernel_rfl⟩
  refine Bool.and_eq_true_iff.2 ⟨?_, by as_aux_lemma => kernel_rfl⟩
  refine Bool.and_eq_true_iff.2 ⟨?_, by as_aux_lemma => kernel_rfl⟩
  refine Bool.and_eq_true_iff.2 ⟨?_, by as_aux_lemma => kernel_rfl⟩
  refine Bool.and_eq_true_iff.2 ⟨?_, by as_aux_lemma => kernel_rfl⟩
  refine Bool.and_eq_true_iff.2 ⟨?_, by as_aux_lemma => kernel_rfl⟩
  refine Bool.and_eq_true_iff.2 ⟨?_, by as_aux_lemma => kernel_rfl⟩
  refine Bool.and_eq_true_iff.2 ⟨?_, by as_aux_lemma => kernel_rfl⟩
  refine Bool.and_eq_true_iff.2 ⟨?_, by as_aux_lemma => kernel_rfl⟩
  refine Bool.and_eq_true_iff.2 ⟨?_, by as_aux_lemma => kernel_rfl⟩
  refine Bool.and_eq_true_iff.2 ⟨?_, by as_aux_lemma => kernel_rfl⟩
  refine Bool.and_eq_true_iff.2 ⟨?_, by as_aux_lemma => kernel_rfl⟩
  refine Bool.and_eq_true_iff.2 ⟨?_, by as_aux_lemma => kernel_rfl⟩
  refine Bool.and_eq_true_iff.2 ⟨?_, by as_aux_lemma => kernel_rfl⟩
  refine Bool.and_eq_true_iff.2 ⟨?_, by as_aux_lemma => kernel_rfl⟩
  refine Bool.and_eq_true_iff.2 ⟨?_, by as_aux_lemma => kernel_rfl⟩
  refine Bool.and_eq_true_iff.2 ⟨?_, by as_aux_lemma => kernel_rfl⟩
  refine Bool.and_eq_true_iff.2 ⟨?_, by as_aux_lemma => kernel_rfl⟩
  refine Bool.and_eq_true_iff.2 ⟨?_, by as_aux_lemma => kernel_rfl⟩
  refine Bool.and_eq_true_iff.2 ⟨?_, by as_aux_lemma => kernel_rfl⟩
  refine Bool.and_eq_true_iff.2 ⟨?_, by as_aux_lemma => kernel_rfl⟩
  refine Bool.and_eq_true_iff.2 ⟨?_, by as_aux_lemma => kernel_rfl⟩
  refine Bool.and_eq_true_iff.2 ⟨?_, by as_aux_lemma => kernel_rfl⟩
  refine Bool.and_eq_true_iff.2 ⟨?_, by as_aux_lemma => kernel_rfl⟩
  refine Bool.and_eq_true_iff.2 ⟨?_, by as_aux_lemma => kernel_rfl⟩
  refine Bool.and_eq_true_iff.2 ⟨?_, by as_aux_lemma => kernel_rfl⟩
  refine Bool.and_eq_true_iff.2 ⟨?_, by as_aux_lemma => kernel_rfl⟩
  refine Bool.and_eq_true_iff.2 ⟨?_, by as_aux_lemma => kernel_rfl⟩
  refine Bool.and_eq_true_iff.2 ⟨?_, by as_aux_lemma => kernel_rfl⟩
  refine Bool.and_eq_true_iff.2 ⟨?_, by as_aux_lemma => kernel_rfl⟩
  refine Bool.and_eq_true_iff.2 ⟨?_, by as_aux_lemma => kernel_rfl⟩
  as_aux_lemma => kernel_rfl

theorem ruleParses_holds : Rows.RuleParsesSaid :=
  OpenClaim.holds_of_wide 11 Try.f11 rfl rfl rfl rfl rfl rfl rfl ⟨rfl, rfl, rfl, rfl, rfl⟩ rfl rfl rfl rfl rfl (by kernel_rfl) Try.func11 ruleParses_facts
    (of_decide_eq_true (by kernel_rfl)) (by unfold Func.isWrapper; first | (rw [if_pos (by decide +kernel)]; kernel_rfl) | (rw [if_neg (by decide +kernel)]; exact ⟨rfl, rfl⟩))
    (fun os started H enc _ => ruleParses_lifted os started H enc)

end Go.Proofs.Ytcgbcbdgjhnlaaa
