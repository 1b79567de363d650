/- The statement ShowBack, walked. -/
import Derived.Test.YtcgbcbdgjhnlaaaPrL
import Derived.Test.YtcgbcbdgjhnlaaaFew
import Derived.Test.YtcgbcbdgjhnlaaaShoE
import Derived.Test.YtcgbcbdgjhnlaaaOpB
namespace Go.Proofs.Ytcgbcbdgjhnlaaa
open Go.RowKit

set_option maxHeartbeats 8000000 in
theorem showback_x (x : ConfS) (hx : anyC x) (s0 : List UInt8) (cs : List Value) (W : PW) (h : ConfR W x cs) : CallsX Try.prog 15 ⟨[.agg ⟨cs⟩, strV s0]⟩ [] W fun v _ => v = .bool true := by
  have h0 := h
  obtain ⟨sv, kv, rfl, hS, hK⟩ := h
  obtain ⟨a1, c1, rfl, _, _⟩ := hS.form
  obtain ⟨a2, c2, rfl, _, _⟩ := hK.form
  obtain ⟨T, hT⟩ := treeF
  refine pureX hmix Try.func15 r15 (by kernel_rfl) [.agg ⟨[.slice a1 x.spaces.length c1, .slice a2 x.scopes.length c2]⟩, strV s0] rfl ?_
  refine vc_assoc (vc_assoc (vc_assoc (vc_cut (fun f' S' => ∃ (σ : List (List PV)) (c1 c2 : List PV) (W1 : PW), (σ = [c1] ∨ σ = [c1, c2]) ∧ S' = ⟨σ, [], W1⟩ ∧ AllSl f' [(1, .v (strV (s0.take 900)))]) ?_ ?_)))
  · refine call_v rfl (fun W' lw => few_x x _ W' (ConfR.mono _ _ _ _ lw h0)) (fun W1 v W2 l1 l2 hv => ?_)
    obtain ⟨cells, rfl, sv, kv, rfl, hS, hK⟩ := hv
    have hok := few_ok hx
    obtain ⟨y, hy⟩ : ∃ y, fewC x = y := ⟨_, rfl⟩
    rw [hy] at hS hK hok
    obtain ⟨b1, d1, rfl, _, _⟩ := hS.form
    obtain ⟨b2, d2, rfl, _, _⟩ := hK.form
    have hC : ConfR W2 y _ := ⟨_, _, rfl, hS, hK⟩
    refine call_v rfl (fun W' _ => short_x s0 900 W') (fun W3 v W4 l3 l4 hv => ?_)
    obtain ⟨s, hs, rfl⟩ : ∃ s, s0.take 900 = s ∧ v = strV s := ⟨_, rfl, hv⟩
    rw [hs]
    have hC := ConfR.mono _ _ _ _ (l3.trans l4) hC
    refine call_v rfl (fun W' lw => print_x hT y _ hok W' (ConfR.mono _ _ _ _ lw hC)) (fun W5 v W6 l5 l6 hv => ?_)
    have hC := ConfR.mono _ _ _ _ (l5.trans l6) hC
    obtain ⟨u, e, hu, he, rfl⟩ : ∃ u e, (printN T y).1 = u ∧ (printN T y).2 = e ∧ v = .tuple ⟨[strV u, .int .i64 e]⟩ := ⟨_, _, rfl, rfl, hv⟩
    refine ⟨_, rfl, _, rfl, rfl, ?_⟩
    apply br_split
    · intro h0
      have h0 : e = 0 := h0
      obtain ⟨p1, p2, p3⟩ := print_ok hT (he.trans h0)
      have hback := print_back hT p1 p2
      rw [← p3, hu] at hback
      refine call_v rfl (fun W' _ => ruleparse_x u W') (fun W7 v W8 l7 l8 hv => ?_)
      rw [hback] at hv
      obtain ⟨cells, hv, sv', kv', rfl, hS', hK'⟩ := hv
      obtain ⟨b3, d3, rfl, _, _⟩ := hS'.form
      obtain ⟨b4, d4, rfl, _, _⟩ := hK'.form
      have hC' : ConfR W8 y _ := ⟨_, _, rfl, hS', hK'⟩
      dsimp only at hv
      subst hv
      have hC := ConfR.mono _ _ _ _ (l7.trans l8) hC
      refine ⟨_, rfl, _, rfl, rfl, ?_⟩
      refine call_v rfl (fun W' lw => same_x y hok _ _ W' (ConfR.mono _ _ _ _ lw hC) (ConfR.mono _ _ _ _ lw hC')) (fun W9 v W10 l9 l10 hv => ?_)
      subst hv
      exact ⟨_, _, _, W10, .inr rfl, rfl, ⟨rfl, trivial⟩⟩
    · intro _
      exact ⟨_, _, [], W6, .inl rfl, rfl, ⟨rfl, trivial⟩⟩
  rintro f' S' ⟨σ, e1, e2, W1, hσ, rfl, hfr⟩
  refine vc_at _ hfr ?_
  have hsl : (s0.take 900).length ≤ 900 := by rw [List.length_take]; omega
  obtain ⟨s, hs⟩ : ∃ s, s0.take 900 = s := ⟨_, rfl⟩
  rw [hs] at hsl ⊢
  rcases hσ with rfl | rfl
  all_goals
    refine call_v rfl (fun W' _ => ruleparse_x s W') (fun W2 v W3 l2 l3 hv => ?_)
    have hok := (ruleP_good s).b
    have hright := (rule_is s).2
    have hlen := read_short hT hsl
    obtain ⟨p, hp⟩ : ∃ p, ruleP s = p := ⟨_, rfl⟩
    rw [hp] at hv hok hright hlen
    obtain ⟨c, e⟩ := p
    dsimp only at hv hok hright hlen
    obtain ⟨cells, rfl, sv, kv, rfl, hS, hK⟩ := hv
    obtain ⟨b1, d1, rfl, _, _⟩ := hS.form
    obtain ⟨b2, d2, rfl, _, _⟩ := hK.form
    have hC : ConfR W3 c _ := ⟨_, _, rfl, hS, hK⟩
    refine ⟨_, rfl, _, rfl, rfl, ?_⟩
    apply br_nsplit
    · intro _
      refine call_v rfl (fun W' _ => showlives_x W') (fun Wa v Wb _ _ hv => ?_)
      subst hv
      exact ret_plain rfl fun _ _ => rfl
    intro h0
    have h0 : e = 0 := h0
    have hright := hright h0
    have hlen := hlen h0
    refine call_v rfl (fun W' lw => print_x hT c _ hok W' (ConfR.mono _ _ _ _ lw hC)) (fun W5 v W6 l5 l6 hv => ?_)
    rw [print_is hT hright, if_neg (by omega)] at hv
    have hback := print_back hT hright hlen
    obtain ⟨u, hu, rfl⟩ : ∃ u, pConf T c = u ∧ v = .tuple ⟨[strV u, .int .i64 0]⟩ := ⟨_, rfl, hv⟩
    rw [hu] at hback
    have hC := ConfR.mono _ _ _ _ (l5.trans l6) hC
    refine ⟨_, rfl, _, rfl, ?_⟩
    refine call_v rfl (fun W' _ => ruleparse_x u W') (fun W7 v W8 l7 l8 hv => ?_)
    rw [hback] at hv
    obtain ⟨cells, hv, sv', kv', rfl, hS', hK'⟩ := hv
    obtain ⟨b3, d3, rfl, _, _⟩ := hS'.form
    obtain ⟨b4, d4, rfl, _, _⟩ := hK'.form
    have hC' : ConfR W8 c _ := ⟨_, _, rfl, hS', hK'⟩
    dsimp only at hv
    subst hv
    have hC := ConfR.mono _ _ _ _ (l7.trans l8) hC
    refine ⟨_, rfl, _, rfl, rfl, rfl, ?_⟩
    refine call_v rfl (fun W' lw => same_x c hok _ _ W' (ConfR.mono _ _ _ _ lw hC) (ConfR.mono _ _ _ _ lw hC')) (fun W9 v W10 l9 l10 hv => ?_)
    subst hv
    refine call_v rfl (fun W' _ => showlives_x W') (fun Wa v Wb _ _ hv => ?_)
    subst hv
    exact ret_plain rfl fun _ _ => rfl
end Go.Proofs.Ytcgbcbdgjhnlaaa
