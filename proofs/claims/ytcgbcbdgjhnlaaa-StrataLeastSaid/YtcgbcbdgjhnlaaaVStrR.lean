/- Layer 18 (strata), walked: the law of chains. -/
import Derived.Test.YtcgbcbdgjhnlaaaVStrN
import Derived.Test.YtcgbcbdgjhnlaaaVStrQ
namespace Go.Proofs.Ytcgbcbdgjhnlaaa
open Go.RowKit

theorem smC_of {c : ConfS} (h : okCB c) (hs : smB c = true) : SmC c := by
  unfold smB at hs
  simp only [Bool.and_eq_true, Nat.ble_eq, List.all_eq_true] at hs
  obtain ⟨⟨h1, h2⟩, h3⟩ := hs
  refine ⟨fun sp hsp => ⟨(h.sp sp hsp).name, fun r hr => ?_⟩, h.sc, h1, fun sp hsp => (h3 sp hsp).1, h2⟩
  have hr2 := (h.sp sp hsp).rels r hr
  have h4 := (h3 sp hsp).2 r hr
  unfold smR at h4
  simp only [Bool.and_eq_true, Bool.or_eq_true, Nat.ble_eq, List.all_eq_true, decide_eq_true_eq] at h4
  obtain ⟨⟨h5, h6⟩, h7⟩ := h4
  refine ⟨hr2.name, h5, h6, hr2.types, fun n hn => ?_⟩
  obtain ⟨⟨h8, h9⟩, h10⟩ := h7 n hn
  exact ⟨⟨by omega, by omega⟩, fun hk => h10.elim (fun h => absurd h (by omega)) fun h => ⟨h.1.1.1, h.1.1.2, h.1.2, h.2⟩⟩
set_option maxRecDepth 20000 in
set_option maxHeartbeats 16000000 in
theorem slives_x (W : PW) : CallsX Try.prog 63 ⟨[]⟩ [] W fun v _ => v = .bool true := by
  obtain ⟨hp, hsm, hnum⟩ := chOK_get liv_ok
  refine pureX hmix Try.func63 r63 (by kernel_rfl) [] rfl ?_
  refine call_v rfl (fun W' _ => ruleparse_x livT W') (fun W2 v W3 _ _ hv => ?_)
  obtain ⟨cells, rfl, hC⟩ := hv
  have hok := (ruleP_good livT).b
  have hS := smC_of hok hsm
  obtain ⟨c, hc⟩ : ∃ c, (ruleP livT).1 = c := ⟨_, rfl⟩
  rw [hc] at hC hok hS hnum
  have hC2 := hC
  obtain ⟨sv, kv, rfl, g1, g2⟩ := hC
  obtain ⟨A0, c0, rfl, _, _⟩ := g1.form
  obtain ⟨A1, c1, rfl, _, _⟩ := g2.form
  refine ⟨_, rfl, _, rfl, ?_⟩
  refine call_v rfl (fun W' lw => numbers_x newIndex_x c _ W' hok (fun _ => hS) (ConfR.mono _ _ _ _ lw hC2)) (fun W4 v W5 l4 l5 hv => ?_)
  obtain ⟨u, rfl, hn⟩ := hv
  rw [hnum] at hn ⊢
  obtain ⟨A2, c2, rfl, _, _⟩ := RL.form hn
  obtain ⟨a2, rfl, r, cs, hr, _, hR, _, hrds⟩ := RL.at (fun W W' x c l h => let ⟨u, e, h⟩ := h; ⟨u, e, h.mono l⟩) hn (PW.Le.refl _) (j := 0) ⟨by omega, by decide⟩
  obtain rfl : r = [0, 1] := (Option.some.inj hr).symm
  obtain ⟨u2, rfl, hrow⟩ := hR
  obtain ⟨A3, c3, rfl, _, _⟩ := hrow.form
  obtain ⟨a3, rfl, x, hx, _, _, hx3⟩ := RP.at (f := natC) (sz := 1) (fun _ => rfl) hrow (PW.Le.refl _) (j := 1) ⟨by omega, by decide⟩
  obtain rfl : x = 1 := (Option.some.inj hx).symm
  refine ⟨_, rfl, _, rfl, ?_⟩
  have hrd : Rd W5 (a2.add (0 * 1)) (.slice (some a3) 2 c3) := by have h := hrds 0 _ rfl; rw [Addr.add_add] at h; exact h
  have hx4 : Rd W5 (a3.add (1 * 1)) (natV 1) := by have h := hx3 0 _ rfl; rw [Addr.add_add] at h; exact h
  refine ⟨rfl, ?_⟩
  refine ⟨rfl, ?_⟩
  refine ⟨⟨by decide, by decide⟩, _, rfl, .slice (some a3) 2 c3, hrd.o, ?_⟩
  refine ⟨rfl, ?_⟩
  refine ⟨⟨by decide, by decide⟩, _, rfl, .slice (some a3) 2 c3, hrd.o, ?_⟩
  refine ⟨⟨by decide, by decide⟩, _, rfl, natV 1, hx4.o, ?_⟩
  refine ⟨rfl, ?_⟩
  exact ret_plain rfl fun _ _ => rfl
end Go.Proofs.Ytcgbcbdgjhnlaaa

