/- Layer 18 (strata), walked: the laws StrataNumbers and StrataLeast. -/
import Derived.Test.YtcgbcbdgjhnlaaaVStrAB
import Derived.Test.YtcgbcbdgjhnlaaaVStrR
import Derived.Test.YtcgbcbdgjhnlaaaVOpB
import Derived.Test.YtcgbcbdgjhnlaaaVCodeSF
namespace Go.Proofs.Ytcgbcbdgjhnlaaa
open Go.RowKit

theorem lay_in2 : ∀ (t : Tr) (m : Nat), ∀ n ∈ layN m t, 4 ≤ n.kind → 0 ≤ n.a ∧ n.a < (m + t.size : Nat) ∧ 0 ≤ n.b ∧ n.b < (m + t.size : Nat)
  | .this, m, n, hn, hk => by
    simp only [layN, List.mem_singleton] at hn
    subst hn; exact absurd hk (by decide)
  | .rel w, m, n, hn, hk => by
    simp only [layN, List.mem_singleton] at hn
    subst hn; exact absurd hk (by decide : ¬ (4 : Int) ≤ 2)
  | .arrow w v, m, n, hn, hk => by
    simp only [layN, List.mem_singleton] at hn
    subst hn; exact absurd hk (by decide : ¬ (4 : Int) ≤ 3)
  | .op k a b, m, n, hn, hk => by
    have ha := a.size_pos
    have hb := b.size_pos
    simp only [layN, List.mem_append, List.mem_singleton] at hn
    simp only [Tr.size]
    rcases hn with (hn | hn) | hn
    · have := lay_in2 a m n hn hk; omega
    · have := lay_in2 b (m + a.size) n hn hk; omega
    · subst hn; dsimp only; omega
theorem few_bd2 (c : ConfS) : BdC (fewC c) := by
  unfold fewC
  refine ⟨by dsimp only; rw [List.length_map, List.length_take]; omega, by dsimp only; rw [List.length_take]; omega, fun s hs => ?_⟩
  obtain ⟨s0, _, rfl⟩ := List.mem_map.1 hs
  unfold fewSp
  refine ⟨by dsimp only; rw [List.length_map, List.length_take]; omega, fun r hr => ?_⟩
  obtain ⟨r0, _, rfl⟩ := List.mem_map.1 hr
  unfold fewRel
  exact ⟨by dsimp only; rw [List.length_take]; omega, by dsimp only; rw [List.length_take]; omega⟩
theorem few_smc2 {c : ConfS} (h : anyC c) (hr : rightN (fewC c) = true) : SmC (fewC c) := by
  have hbd := few_bd2 c
  have hok := few_ok h
  unfold rightN at hr
  simp only [Bool.and_eq_true, List.all_eq_true] at hr
  obtain ⟨_, hsp, _⟩ := hr
  refine ⟨fun s hs => ⟨(hok.sp s hs).name, fun r hrm => ?_⟩, hok.sc, hbd.1, fun s hs => (hbd.2.2 s hs).1, hbd.2.1⟩
  have hr2 := (hok.sp s hs).rels r hrm
  obtain ⟨b1, b2⟩ := (hbd.2.2 s hs).2 r hrm
  refine ⟨hr2.name, b1, b2, hr2.types, fun n hn => ⟨?_, fun hk => ?_⟩⟩
  · have hs0 := hs
    unfold fewC at hs0
    obtain ⟨s0, hs1, rfl⟩ := List.mem_map.1 hs0
    unfold fewSp at hrm
    obtain ⟨r0, hr1, rfl⟩ := List.mem_map.1 hrm
    unfold fewRel at hn
    exact ((h.1 s0 (List.mem_of_mem_take hs1)).2 r0 (List.mem_of_mem_take hr1)).2.2 n (List.mem_of_mem_take hn)
  · have h1 := hsp s hs
    unfold spOK at h1
    simp only [Bool.and_eq_true, List.all_eq_true] at h1
    have h2 := h1.2 r hrm
    unfold relOK at h2
    simp only [Bool.and_eq_true, Bool.not_eq_true', decide_eq_false_iff_not] at h2
    obtain ⟨t, _, ht, _⟩ := deep_lay h2.2.1
    rw [ht] at hn ⊢
    have := lay_in2 t 0 n hn hk
    rw [layN_len]
    omega

set_option maxRecDepth 20000 in
set_option maxHeartbeats 16000000 in
theorem scheck_x (c : ConfS) (cells : List Value) (W : PW) (hok : okCB c) (hSm : rightN c = true → SmC c) (h : ConfR W c cells) : CallsX Try.prog 68 ⟨[.agg ⟨cells⟩]⟩ [] W fun v _ => v = .int .i64 (numbersS c).2 := by
  have hC := h
  obtain ⟨sv, kv, rfl, g1, g2⟩ := h
  obtain ⟨A0, c0, rfl, _, _⟩ := g1.form
  obtain ⟨A1, c1, rfl, _, _⟩ := g2.form
  refine pureX hmix Try.func68 r68 (by kernel_rfl) [.agg ⟨[.slice A0 c.spaces.length c0, .slice A1 c.scopes.length c1]⟩] rfl ?_
  refine call_v rfl (fun W' lw => numbers_x newIndex_x c _ W' hok hSm (ConfR.mono _ _ _ _ lw hC)) (fun W4 v W5 l4 l5 hv => ?_)
  obtain ⟨u, rfl, _⟩ := hv
  obtain ⟨e, he⟩ : ∃ e, (numbersS c).2 = e := ⟨_, rfl⟩
  rw [he]
  exact ⟨_, rfl, _, rfl, ret_plain rfl fun _ _ => rfl⟩
theorem numbers_small {x : ConfS} (hB : BdC x) : (numbersS x).1.length ≤ 1000000 ∧ ∀ r ∈ (numbersS x).1, r.length ≤ 1000000 := by
  obtain ⟨T, hT⟩ := treeF
  obtain ⟨_, h1, h2⟩ := numbers_is hT x
  by_cases he : (numbersS x).2 = 0
  · obtain ⟨_, hs, _⟩ := h1 he
    have hb := hB.1
    refine ⟨by rw [shN_len hs]; omega, fun r hr => ?_⟩
    have h3 : r.length ∈ (numbersS x).1.map List.length := List.mem_map.2 ⟨r, hr, rfl⟩
    unfold ShN at hs
    rw [hs] at h3
    obtain ⟨s, hs2, e⟩ := List.mem_map.1 h3
    have := (hB.2.2 s hs2).1
    omega
  · rw [h2 he]
    exact ⟨Nat.zero_le _, fun r hr => by cases hr⟩
set_option maxRecDepth 20000 in
set_option maxHeartbeats 16000000 in
theorem strnum_x (x0 : ConfS) (hx : anyC x0) (cs : List Value) (W : PW) (h : ConfR W x0 cs) : CallsX Try.prog 18 ⟨[.agg ⟨cs⟩]⟩ [] W fun v _ => v = .bool true := by
  have hC0 := h
  obtain ⟨sv, kv, rfl, g1, g2⟩ := h
  obtain ⟨A0, c0, rfl, _, _⟩ := g1.form
  obtain ⟨A1, c1, rfl, _, _⟩ := g2.form
  obtain ⟨T, hT⟩ := treeF
  refine pureX hmix Try.func18 r18 (by kernel_rfl) [.agg ⟨[.slice A0 x0.spaces.length c0, .slice A1 x0.scopes.length c1]⟩] rfl ?_
  refine call_v rfl (fun W' lw => few_x x0 _ W' (ConfR.mono _ _ _ _ lw hC0)) (fun W1 v1 W2 l1 l2 hv1 => ?_)
  obtain ⟨cells, rfl, hC⟩ := hv1
  have hok := few_ok hx
  have hB := few_bd2 x0
  have hSm := few_smc2 hx
  obtain ⟨x, hxx⟩ : ∃ x, fewC x0 = x := ⟨_, rfl⟩
  rw [hxx] at hok hB hSm hC
  have hC2 := hC
  obtain ⟨sv, kv, rfl, k1, k2⟩ := hC
  obtain ⟨A2, c2, rfl, _, _⟩ := k1.form
  obtain ⟨A3, c3, rfl, _, _⟩ := k2.form
  obtain ⟨n1, hn1⟩ : ∃ n, x.spaces.length = n := ⟨_, rfl⟩
  obtain ⟨n2, hn2⟩ : ∃ n, x.scopes.length = n := ⟨_, rfl⟩
  rw [hn1, hn2] at hC2 ⊢
  clear k1 k2
  have hsm := numbers_small hB
  have hnx := fun W' h => numbers_x newIndex_x x [.slice A2 n1 c2, .slice A3 n2 c3] W' hok hSm h
  have hdx := fun W' h => dnumbers_x hT x [.slice A2 n1 c2, .slice A3 n2 c3] W' hok hB h
  have hcx := fun W' h => scheck_x x [.slice A2 n1 c2, .slice A3 n2 c3] W' hok hSm h
  rw [(numbers_is hT x).1] at hdx
  obtain ⟨N, hN⟩ : ∃ N, numbersS x = N := ⟨_, rfl⟩
  rw [hN] at hsm hnx hdx hcx
  obtain ⟨num, e⟩ := N
  dsimp only at hsm hnx hdx hcx
  refine call_v rfl (fun W' lw => hnx W' (ConfR.mono _ _ _ _ lw hC2)) (fun W3 v3 W4 l3 l4 hv3 => ?_)
  obtain ⟨u, rfl, hu⟩ := hv3
  have l24 := l3.trans l4
  refine ⟨_, rfl, _, rfl, ?_⟩
  refine call_v rfl (fun W' lw => hdx W' (ConfR.mono _ _ _ _ (l24.trans lw) hC2)) (fun W5 v5 W6 l5 l6 hv5 => ?_)
  obtain ⟨w, rfl, hw⟩ := hv5
  have l26 := l24.trans (l5.trans l6)
  have hu6 : NumR W6 u num := RL.mono RowR.mono (l5.trans l6) hu
  refine ⟨_, rfl, _, rfl, ?_⟩
  refine call_e (x := .bool true) rfl (fun W' lw => dsame_x num u w W' hsm (RL.mono RowR.mono lw hu6) (RL.mono RowR.mono lw hw)) (fun W7 l7 => ?_)
  refine ⟨rfl, ?_⟩
  apply br_split
  · intro _
    refine call_e (x := .int .i64 e) rfl (fun W' lw => hcx W' (ConfR.mono _ _ _ _ (l26.trans (l7.trans lw)) hC2)) (fun W8 l8 => ?_)
    refine ⟨rfl, ?_⟩
    apply br_split
    · intro _
      refine call_e (x := .bool true) rfl (fun W' _ => slives_x W') (fun W9 l9 => ?_)
      exact ret_plain rfl fun _ _ => rfl
    · intro h; exact absurd rfl h
  · intro h; exact absurd rfl h
end Go.Proofs.Ytcgbcbdgjhnlaaa

