/- JsonBack: for every input of bulk at most 1048576 (the statement's own bound) the law returns true and leaves its arguments as they were; the listed variables are tied to the program's text. No other condition. -/
import Derived.Test.YtkhgmmejgikgnaaDoorGT
import Derived.Test.YtkhgmmejgikgnaaDoorCards
import Derived.Test.YtkhgmmejgikgnaaDoorOpJ
import Derived.Deep.DeepHandedRow
import Derived.Carry
namespace Go.Proofs.YtkhgmmejgikgnaaDoor
open Go.ChangeShapes Go.WideShapes Go.ChangeAt Go.RowKit
open Go.ChangeMaps (open_string shut_string)

section
variable {H : Type} {enc : TypeId × Value → H}
theorem witness_upto {C : Checked} {os : Os} {f : FuncId} {fn : Func} {s : OpenSpec} {conds : List PathCond} {apart : Bool} {laid : List (String × DataW Unit)} (modest : Bool) (w0 : World) (args : Array Value) (hos : w0.os = os)
    (hsh : (w0.forCall (fun _ _ => 0) ⟨#[], args, []⟩).Shaped C.prog)
    (hok : Input.okWideB C.prog (w0.forCall (fun _ _ => 0) ⟨#[], args, []⟩) f ⟨#[], args, []⟩ = true)
    (hrow : s.preRow enc C.prog fn conds apart laid (w0.forCall (fun _ _ => 0) ⟨#[], args, []⟩).memory args) :
    ∃ (w : World) (tape : Tape) (i : Input), w.os = os ∧ (w.forCall tape i).Shaped C.prog ∧ i.vars = [] ∧ Input.okWide C.prog (w.forCall tape i) .any w.heap.size f i ∧
      s.preRow enc C.prog fn conds apart laid (w.forCall tape i).memory i.args ∧ ({ modest := modest } : Assume).holds C.prog (lone (Frame.enter C.prog f i.args .normal) [] (w.forCall tape i)) :=
  ⟨w0, fun _ _ => 0, ⟨#[], args, []⟩, hos, hsh, (Input.okWide_of_okWideB (base := 0) hok).1, (Input.okWide_of_okWideB hok).2, hrow, by
    simp only [Assume.holds]
    exact ⟨by simp, by simp, fun _ => Modest.zero, by simp, by simp⟩⟩
end
set_option maxRecDepth 100000 in
theorem jsonBack_lifted (os : Os) (started : os.Started) (H : Type) (enc : TypeId × Value → H) (F : Stop.Interp) :
    ReturnsInHanded {} Tryd.checked os 13 .any ((Rows.OpenSpec.upto Rows.jsonBackSpec).preRow enc Tryd.prog Tryd.f13 Rows.jsonBackUptoRow.domain false Rows.jsonBackUptoRow.laid)
      (((Rows.OpenSpec.upto Rows.jsonBackSpec).at F).post enc Tryd.prog Tryd.f13 false true false false) := by
  refine returnsInHanded_of_row (C := Tryd.checked) (s := Rows.OpenSpec.upto Rows.jsonBackSpec) Tryd.own started (by kernel_rfl) Tryd.func13
    (witness_upto (enc := enc) (C := Tryd.checked) false (World.laidAll Tryd.prog os Rows.jsonBackUptoRow.laid) #[.agg #[.int .i64 0, .bool false, .int .i64 0, .string ⟨#[]⟩, .slice none 0 0, .slice none 0 0], .string ⟨#[]⟩] (World.laidAll_os _ _ _)
      (World.shaped_of_ZipB (by kernel_rfl) (by kernel_rfl)) (by kernel_rfl)
      (OpenSpec.preRow_of_cond 8 (x := ([.agg [.lit (.int .i64 0), .lit (.bool false), .lit (.int .i64 0), .lit (.string []), .nil, .nil], .lit (.string [])], [], [])) (by kernel_rfl) (by kernel_rfl) (fun k hk => by cases hk; kernel_rfl) (by kernel_rfl)
        (by rw [MakeChecks.laidMetH_plain _ _ _ (by kernel_rfl)]; exact laidMet_laidAll _ (by kernel_rfl) (by kernel_rfl)))) ?_
  intro W base args ds gs before hval0 hW _ hcond _ hX _ _
  have hval : ∀ (j : Nat) t v, Tryd.f13.params[j]? = some t → args[j]? = some v → Value.okWide Tryd.prog W .any base t v := hval0
  have hW' := hW
  obtain ⟨p, q, hA0, hV, rfl, hfz, hnd⟩ := hW
  have hA : DataW.TrodAll enc Tryd.prog W 0 (fun _ => true) true Tryd.f13.params.toList args.toList ds p := hA0
  rw [Tryd.params13] at hA hval
  obtain ⟨v0, v1, d0, d1, p0, p1, rfl, rfl, rfl, h0, h1⟩ := trodAll_two hA
  obtain ⟨rfl, rfl⟩ := trodVars_none hV
  obtain ⟨cs0, rfl, _⟩ := okWide_struct Tryd.underlying77 (hval 0 77 v0 rfl rfl)
  obtain ⟨l0, k0, e0, z0⟩ := open_json h0
  obtain rfl : cs0 = ⟨l0.cells⟩ := Array.ext' e0
  have hlt0 : ∀ x ∈ p0, x.block < W.heap.size := fun x hx => by simpa using hW'.lt x (by simp [hx])
  have hbulk : Rows.uptoBulkAll ([d0, d1] ++ []) ≤ 1048576 := of_decide_eq_true (hcond _ rfl)
  have hb0 : Rows.uptoBulk d0 ≤ 1048576 := Nat.le_trans (bulk_mem (by simp)) hbulk
  obtain ⟨b, rfl, rfl, rfl, wb⟩ := open_string Tryd.underlying9 (hval 1 9 v1 rfl rfl) h1
  clear hA0 hval0
  simp only [List.append_nil] at hW'
  have hX' : laidMetH Tryd.prog Rows.jsonDeepRow.laid W := hX
  refine (top_calls (jback_x l0 b.data.toList (PW.all W) k0 (fun hr => by have h1 := text_sz _ _ hr; have h2 := sz_small 18 l0.er; omega) (je_of hX') (jt_of hX') (ju_of hX'))).mono fun e W' ⟨he, hw⟩ => ?_
  subst he
  exact ⟨_, rfl, post_of_below (pa := p0 ++ ([] ++ [])) (pv := []) hW' (fun _ _ _ => trodAll_mk1 (shut_bool Tryd.underlying4 true)) (fun sp hsp => trodAll_mk2 (WideElems.Trod_stays Tryd.laidOut (by kernel_rfl) (of_decide_eq_true (by kernel_rfl)) h0 (fun x hx => hw.same (hlt0 x hx)) (fun x hx => hsp x (by simp [hx]))) (shut_string Tryd.underlying9 wb)) (fun _ _ => rfl) (by simp)
    hw (ok_one (by kernel_rfl) rfl (okWide_bool_mk Tryd.underlying4 true))⟩

set_option maxRecDepth 100000 in
set_option maxHeartbeats 0 in
theorem jsonBack_facts : joinedFacts Tryd.prog 13 Tryd.f13 (Rows.OpenSpec.upto Rows.jsonBackSpec).bare Rows.jsonBackUptoRow = true := by
  unfold joinedFacts
  refine Bool.and_eq_true_iff.2 ⟨?_, by as_aux_lemma => kernel_rfl⟩
  refine Bool.and_eq_true_iff.2 ⟨?_, by as_aux_lemma => kernel_rfl⟩
  refine Bool.and_eq_true_iff.2 ⟨?_, by as_aux_lemma => kernel_rfl⟩
  refine Bool.and_eq_true_iff.2 ⟨?_, by as_aux_lemma => kernel_rfl⟩
  refine Bool.and_eq_true_iff.2 ⟨?_, by as_aux_lemma => kernel_rfl⟩
  refine Bool.and_eq_true_iff.2 ⟨?_, by as_aux_lemma => kernel_rfl⟩
  refine Bool.and_eq_true_iff.2 ⟨?_, by as_aux_lemma => kernel_rfl⟩
  refine Bool.and_eq_true_iff.2 ⟨?_, by as_aux_lemma => kernel_rfl⟩
  refine Bool.and_eq_true_iff.2 ⟨?_, by as_aux_lemma => kernel_rfl⟩
  refine Bool.and_eq_true_iff.2 ⟨?_, by as_aux_lemma => kernel_rfl⟩
  refine Bool.and_eq_true_iff.2 ⟨?_, by as_aux_lemma => kernel_rfl⟩
  refine Bool.and_eq_true_iff.2 ⟨?_, by as_aux_lemma => kernel_rfl⟩
  refine Bool.and_eq_true_iff.2 ⟨?_, by as_aux_lemma => kernel_rfl⟩
  refine Bool.and_eq_true_iff.2 ⟨?_, by as_aux_lemma => kernel_rfl⟩
  refine Bool.and_eq_true_iff.2 ⟨?_, by as_aux_lemma => kernel_rfl⟩
  refine Bool.and_eq_true_iff.2 ⟨?_, by as_aux_lemma => kernel_rfl⟩
  refine Bool.and_eq_true_iff.2 ⟨?_, by as_aux_lemma => kernel_rfl⟩
  refine Bool.and_eq_true_iff.2 ⟨?_, by as_aux_lemma => kernel_rfl⟩
  refine Bool.and_eq_true_iff.2 ⟨?_, by as_aux_lemma => kernel_rfl⟩
  refine Bool.and_eq_true_iff.2 ⟨?_, by as_aux_lemma => kernel_rfl⟩
  refine Bool.and_eq_true_iff.2 ⟨?_, by as_aux_lemma => kernel_rfl⟩
  refine Bool.and_eq_true_iff.2 ⟨?_, by as_aux_lemma => kernel_rfl⟩
  refine Bool.and_eq_true_iff.2 ⟨?_, by as_aux_lemma => kernel_rfl⟩
  refine Bool.and_eq_true_iff.2 ⟨?_, by as_aux_lemma => kernel_rfl⟩
  refine Bool.and_eq_true_iff.2 ⟨?_, by as_aux_lemma => kernel_rfl⟩
  refine Bool.and_eq_true_iff.2 ⟨?_, by as_aux_lemma => kernel_rfl⟩
  refine Bool.and_eq_true_iff.2 ⟨?_, by as_aux_lemma => kernel_rfl⟩
  refine Bool.and_eq_true_iff.2 ⟨?_, by as_aux_lemma => kernel_rfl⟩
  refine Bool.and_eq_true_iff.2 ⟨?_, by as_aux_lemma => kernel_rfl⟩
  refine Bool.and_eq_true_iff.2 ⟨?_, by as_aux_lemma => kernel_rfl⟩
  refine Bool.and_eq_true_iff.2 ⟨?_, by as_aux_lemma => kernel_rfl⟩
  as_aux_lemma => kernel_rfl

set_option maxRecDepth 100000 in
theorem jsonBack_row : Rows.JsonBackUptoSaid :=
  OpenClaim.holds_of_cond 13 Tryd.f13 rfl rfl rfl rfl rfl rfl rfl ⟨rfl, rfl, rfl, rfl, rfl⟩ rfl rfl rfl rfl rfl (by kernel_rfl) Tryd.func13 jsonBack_facts
    (of_decide_eq_true (by kernel_rfl)) (by unfold Func.isWrapper; first | (rw [if_pos (by decide +kernel)]; kernel_rfl) | (rw [if_neg (by decide +kernel)]; exact ⟨rfl, rfl⟩))
    (fun os started H enc _ F => by rw [OpenClaim.pre_eq_preRow]; exact jsonBack_lifted os started H enc F)
set_option maxHeartbeats 0 in
theorem jsonBack_holds : Rows.JsonBackUptoCardSaid :=
  Claim7.holds_tied_plain_at .later [] [.data, .data, .data, .data, .sentinel, .sentinel, .pinned] true (true, "4a00e78bf3217cc84d8c408abc5e5dc03c325643bb785ca33287de4ee2147a28") true jsonBack_row (fun _ h => by cases h) (by as_aux_lemma => kernel_rfl) (fun _ h => by cases h) jsonBackUpto_row_tie rfl ⟨rfl, rfl⟩ (by as_aux_lemma => kernel_rfl) rfl
    (fun f fn hf hfn => by
      obtain rfl : f = 13 := Option.some.inj ((show Tryd.prog.funcNamed "doorward/doorwardlaw06.JsonBack" = some 13 by kernel_rfl).symm.trans hf) |>.symm
      obtain rfl : fn = Tryd.f13 := (Option.some.inj (Tryd.func13.symm.trans hfn)).symm
      exact ⟨by as_aux_lemma => kernel_rfl, fun j t ht => by
        rw [Tryd.params13] at ht
        have hm : t ∈ [77, 9] := by
          have hj := Array.mem_of_getElem? ht
          revert hj; simp only [List.mem_toArray, List.mem_cons, List.not_mem_nil, or_false]
          intro hj; rcases hj with h | h <;> (subst h; simp)
        have hall : ([77, 9].all fun u => !Tryd.prog.wantsStandIn u) = true := by kernel_rfl
        exact (show Tryd.prog.wantsStandIn t = false by simpa using List.all_eq_true.1 hall t hm)⟩)
    (by as_aux_lemma => kernel_rfl)
end Go.Proofs.YtkhgmmejgikgnaaDoor
