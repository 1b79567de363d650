/- The statement ShowExprs, walked. -/
import Derived.Test.YtcgbcbdgjhnlaaaShoW
namespace Go.Proofs.Ytcgbcbdgjhnlaaa
open Go.RowKit

theorem showlives_x (W : PW) : CallsX Try.prog 58 ⟨[]⟩ [] W fun v _ => v = .bool true := by
  refine pureX hmix Try.func58 r58 (by kernel_rfl) [] rfl ?_
  have ht : (Tr.op 4 .this (.rel [97])).ok := ⟨.inl rfl, trivial, wa⟩
  refine ⟨rfl, fun b W3 l3 hr => ?_⟩
  have hmax := maxLen_big
  have hRP : RP nodeC W3 (.slice (some ⟨b, 0, none⟩) 3 3) (layN 0 (.op 4 .this (.rel [97]))) := SlRead.of_rds hr (by omega)
  have hsm : ∀ n ∈ layN 0 (.op 4 .this (.rel [97])), n.small := by
    intro n hn
    have hn : n ∈ ([⟨1, [], [], 0, 0⟩, ⟨2, [97], [], 0, 0⟩, ⟨4, [], [], 0, 1⟩] : List NodeS) := hn
    simp only [List.mem_cons, List.not_mem_nil, or_false] at hn
    rcases hn with rfl | rfl | rfl <;> exact ⟨by simp, by simp⟩
  refine call_v rfl (fun W' lw => showexpr_x _ (by simp [layN]) hsm _ W' (hRP.mono lw)) (fun W4 v W5 _ _ hv => ?_)
  have hv : v = strV [116, 104, 105, 115, 32, 124, 32, 97] := (hv.2 _ ht rfl).trans rfl
  subst hv
  exact ret_plain rfl fun _ _ => rfl
set_option maxHeartbeats 4000000 in
theorem showexprs_x (l : List NodeS) (hml : l.length ≤ maxLen) (hok : ∀ n ∈ l, n.small) (u : Value) (W : PW) (hr : RP nodeC W u l) : CallsX Try.prog 14 ⟨[u]⟩ [] W fun v _ => v = .bool true := by
  have hr0 := hr
  obtain ⟨A, c, rfl, _, _⟩ := hr.form
  refine pureX hmix Try.func14 r14 (by kernel_rfl) [.slice A l.length c] rfl ?_
  refine vc_assoc (vc_cut (fun f' S' => ∃ W1, S' = ⟨[], [], W1⟩ ∧ W.Le W1 ∧ l.length ≤ 64 ∧ ¬ deepN l = 0 ∧ deepN l ≤ 16 ∧ AllSl f' [(0, .v (.slice A l.length c))]) ?_ ?_)
  · refine ⟨rfl, ?_⟩
    apply br_split
    · intro _
      refine call_v rfl (fun W' _ => showlives_x W') (fun Wa v Wb _ _ hv => ?_)
      subst hv
      exact ret_plain rfl fun _ _ => rfl
    intro h64
    have h64 : ¬ (64 : Int) < l.length := h64
    refine call_v rfl (fun W' lw => deep_x l _ (by omega) hok W' (hr.mono lw)) (fun W3 v W4 l3 l4 hv => ?_)
    obtain ⟨d, hd, rfl⟩ : ∃ d, deepN l = d ∧ v = .int .i64 d := ⟨_, rfl, hv⟩
    refine ⟨rfl, ?_⟩
    apply br_split
    · intro _
      refine call_v rfl (fun W' _ => showlives_x W') (fun Wa v Wb _ _ hv => ?_)
      subst hv
      exact ret_plain rfl fun _ _ => rfl
    intro h0
    have h0 : ¬ d = 0 := h0
    refine call_v rfl (fun W' lw => deep_x l _ (by omega) hok W' (hr.mono (l3.trans (l4.trans lw)))) (fun W5 v W6 l5 l6 hv => ?_)
    rw [hd] at hv
    subst hv
    refine ⟨rfl, br_split (fun _ => ?_) (fun h16 => ?_)⟩
    · refine call_v rfl (fun W' _ => showlives_x W') (fun Wa v Wb _ _ hv => ?_)
      subst hv
      exact ret_plain rfl fun _ _ => rfl
    have h16 : ¬ (16 : Int) < d := h16
    exact ⟨W6, rfl, l3.trans (l4.trans (l5.trans l6)), by omega, by rw [hd]; exact h0, by rw [hd]; omega, ⟨rfl, trivial⟩⟩
  rintro f' S' ⟨W1, rfl, l01, h64, h0, h16, hfr⟩
  refine vc_at _ hfr ?_
  obtain ⟨t, ht, rfl, hdt⟩ := deep_lay h0
  have hsz : t.size ≤ 64 := by rw [layN_len] at h64; exact h64
  have htl := txtT_len t ht
  refine call_v rfl (fun W' lw => showexpr_x _ (by omega) hok _ W' (hr0.mono (l01.trans lw))) (fun W3 v W4 l3 l4 hv => ?_)
  have hv := hv.2 t ht rfl
  obtain ⟨s, hs, rfl⟩ : ∃ s, txtT t = s ∧ v = strV s := ⟨_, rfl, hv⟩
  have hrule := show_rule wa wb ht hsz (by omega)
  rw [hs] at hrule htl
  have etx : [110, 97, 109, 101, 115, 112, 97, 99, 101, 32, 97, 32, 123, 32, 114, 101, 108, 97, 116, 105, 111, 110, 32, 98, 32, 61, 32] ++ s ++ [59, 32, 125] = textOf [97] [98] s := by simp [textOf, kNamespace, kRelation]
  refine ⟨cat_le4 10000 (by show 27 + s.length ≤ _; omega) (by decide), cat_le4 10000 (by show ([110, 97, 109, 101, 115, 112, 97, 99, 101, 32, 97, 32, 123, 32, 114, 101, 108, 97, 116, 105, 111, 110, 32, 98, 32, 61, 32] ++ s).length + 3 ≤ _; simp only [List.length_append, List.length_cons, List.length_nil]; omega) (by decide), ?_⟩
  have hgood := (ruleP_good (textOf [97] [98] s)).b
  refine call_v rfl (fun W' _ => ruleparse_x ([110, 97, 109, 101, 115, 112, 97, 99, 101, 32, 97, 32, 123, 32, 114, 101, 108, 97, 116, 105, 111, 110, 32, 98, 32, 61, 32] ++ s ++ [59, 32, 125]) W') (fun W8 v W9 l8 l9 hv => ?_)
  rw [etx] at hv
  have l09 := l01.trans (l3.trans (l4.trans (l8.trans l9)))
  rcases hrule with hrule | hrule
  · rw [hrule] at hv
    obtain ⟨cells, hv, sv, kv, rfl, hS, hK⟩ := hv
    obtain ⟨a1, c1, rfl, _, _⟩ := hS.form
    obtain ⟨a2, c2, rfl, _, _⟩ := hK.form
    dsimp only at hv
    subst hv
    refine ⟨_, rfl, _, rfl, rfl, ?_⟩
    refine call_v rfl (fun W' _ => showlives_x W') (fun Wa v Wb _ _ hv => ?_)
    subst hv
    exact ret_plain rfl fun _ _ => rfl
  · rw [hrule] at hv
    obtain ⟨cells, hv, sv, kv, rfl, hS, hK⟩ := hv
    obtain ⟨a1, c1, rfl, _, _⟩ := hS.form
    obtain ⟨a2, c2, rfl, _, _⟩ := hK.form
    dsimp only at hv hS hK
    subst hv
    obtain ⟨pa, rfl, sp, es, hx, _, ⟨rv, hes, hR⟩, hall, _⟩ := hS.at SpR.mono (PW.Le.refl _) (j := 0) ⟨by decide, by show (0 : Int) < ((1 : Nat) : Int); decide⟩
    obtain rfl : (⟨[97], [⟨[98], [], layN 0 t⟩]⟩ : SpaceS) = sp := Option.some.inj hx
    subst hes
    obtain ⟨a3, c3, rfl, _, _⟩ := hR.form
    obtain ⟨pb, rfl, r, fs, hy, _, ⟨tv, nv, hfs, hT, hN⟩, hall2, _⟩ := hR.at RelR.mono (PW.Le.refl _) (j := 0) ⟨by decide, by show (0 : Int) < ((1 : Nat) : Int); decide⟩
    obtain rfl : (⟨[98], [], layN 0 t⟩ : RelS) = r := Option.some.inj hy
    subst hfs
    obtain ⟨a5, c5, rfl, _, _⟩ := hN.form
    have hN : RP nodeC W9 (.slice a5 (layN 0 t).length c5) (layN 0 t) := hN
    refine ⟨_, rfl, _, rfl, rfl, rfl, rfl, ⟨by decide, by show (0 : Int) < ((1 : Nat) : Int); decide⟩, pa, rfl, .slice (some pb) 1 c3, (hall 1 _ rfl).o, rfl, ⟨by decide, by show (0 : Int) < ((1 : Nat) : Int); decide⟩, pa, rfl, .slice (some pb) 1 c3, (hall 1 _ rfl).o, ⟨by decide, by show (0 : Int) < ((1 : Nat) : Int); decide⟩, pb, rfl, .slice a5 (layN 0 t).length c5, (hall2 2 _ rfl).o, ?_⟩
    refine ⟨rfl, br_nsplit (fun hne => absurd rfl hne) (fun _ => ?_)⟩
    refine ⟨Nat, fun i => [(6, .v (.int .i64 i))], fun _ => [[.v (.slice (some pa) 1 c1), .v (.slice a2 0 c2)]], fun _ => [], fun i _ => i ≤ (layN 0 t).length, fun i => (layN 0 t).length - i, 0,
      all_sl ⟨rfl, trivial⟩, rfl, ole_refl _, Nat.zero_le _, loopOK (fun _ => ⟨⟨trivial, rfl⟩, trivial⟩) (fun _ => rfl) (fun _ => rfl), ?_⟩
    intro i Wa la hi fr
    refine ⟨rfl, br_split (fun hq => ?_) (fun hq => ?_)⟩
    · have hq : (i : Int) < (layN 0 t).length := hq
      obtain ⟨p1, rfl, x, hx, _, _, hr1⟩ := hN.at (sz := 5) (fun _ => rfl) la (j := i) ⟨by omega, hq⟩
      obtain ⟨p2, rfl, y, hy, _, _, hr2⟩ := hr0.at (sz := 5) (fun _ => rfl) (l09.trans la) (j := i) ⟨by omega, hq⟩
      obtain rfl : x = y := Option.some.inj (hx.symm.trans hy)
      refine ⟨⟨by omega, hq⟩, p1, rfl, nodeC x, rfl, hr1.o, ⟨by omega, hq⟩, p2, rfl, nodeC x, rfl, hr2.o, eqNode, ?_⟩
      refine br_f (by simp) ?_
      exact ⟨rfl, _, (i64_in ((i : Int) + 1) ⟨by omega, by omega⟩).symm, i + 1, all_sl ⟨rfl, trivial⟩, rfl, ole_refl _, by omega, by dsimp only; omega⟩
    refine call_v rfl (fun W' _ => showlives_x W') (fun Wa v Wb _ _ hv => ?_)
    subst hv
    exact ret_plain rfl fun _ _ => rfl
end Go.Proofs.Ytcgbcbdgjhnlaaa
