/- HttpFronts, walked. -/
import Derived.Test.YtkhgmmejgikgnaaGreatDoorHttH
namespace Go.Proofs.YtkhgmmejgikgnaaGreatDoor
open Go.RowKit

theorem http_two (b : List UInt8) : (∃ f, httpS b = (0, some f)) ∨ ∃ e, ¬ e = 0 ∧ httpS b = (e, none) := by
  unfold httpS restS
  split
  · split
    · exact .inr ⟨_, by decide, rfl⟩
    · exact .inr ⟨_, by decide, rfl⟩
  · split
    · exact .inr ⟨_, by decide, rfl⟩
    · split
      · exact .inr ⟨_, by decide, rfl⟩
      · exact .inr ⟨_, by decide, rfl⟩
      · split
        · exact .inr ⟨_, by decide, rfl⟩
        · split
          · exact .inr ⟨_, by decide, rfl⟩
          · split
            · exact .inr ⟨_, by decide, rfl⟩
            · exact .inl ⟨_, rfl⟩
theorem http_is {b : List UInt8} {e : Int} (h : (httpS b).1 = e) (he : ¬ e = 0) : httpS b = (e, none) := by
  rcases http_two b with ⟨f, hf⟩ | ⟨e', _, hf⟩
  · rw [hf] at h; exact absurd h.symm he
  · rw [hf] at h ⊢
    have h : e' = e := h
    rw [h]
theorem within_nn (x : Int) (hi : Nat) : ∃ n : Nat, n ≤ hi ∧ (if x < 0 then (0 : Int) else if (hi : Int) < x then hi else x) = n := by
  by_cases h1 : x < 0
  · exact ⟨0, Nat.zero_le _, by rw [if_pos h1]; rfl⟩
  · by_cases h2 : (hi : Int) < x
    · exact ⟨hi, Nat.le_refl _, by rw [if_neg h1, if_pos h2]⟩
    · exact ⟨x.toNat, by omega, by rw [if_neg h1, if_neg h2]; omega⟩
theorem rb_cap {W : PW} {A : Option Addr} {n c : Nat} {l : List UInt8} (h : RB W (.slice A n c) l) : n = l.length ∧ l.length ≤ c ∧ c ≤ maxLen := by
  obtain ⟨_, _, e, h1, h2⟩ := h.form
  simp only [Value.slice.injEq] at e
  obtain ⟨_, rfl, rfl⟩ := e
  exact ⟨rfl, h1, h2⟩
theorem rb_front {W : PW} {A : Option Addr} {c : Nat} {l : List UInt8} (h : RB W (.slice A l.length c) l) (hA : A = none → c = 0) {n : Nat} (hn : n ≤ l.length) : ∃ A', (if c = 0 then A else A.map (·.add (0 * 1))) = A' ∧ (A' = none → c = 0) ∧ RB W (.slice A' (l.take n).length c) (l.take n) := by
  refine ⟨_, rfl, fun e => ?_, ?_⟩
  · split at e
    · exact hA e
    · cases A
      · exact hA rfl
      · cases e
  · have := RB.cut h (i := 0) (m := n) (Nat.zero_le _) hn
    have e : (l.take n).length = n := by rw [List.length_take]; omega
    rw [e]
    exact this
theorem cutb_x (l : List UInt8) (n : Nat) (hn : n ≤ 1000000) (A : Option Addr) (c : Nat) (hA : A = none → c = 0) (W : PW) (h : RB W (.slice A l.length c) l) :
    CallsX Tryz.prog 4 ⟨[.slice A l.length c, .int .i64 n]⟩ [] W fun v W' => ∃ A', v = .slice A' (l.take n).length c ∧ (A' = none → c = 0) ∧ RB W' (.slice A' (l.take n).length c) (l.take n) := by
  obtain ⟨_, hcap, hmax⟩ := rb_cap h
  refine pureX hmix Tryz.func4 r4 (by kernel_rfl) [.slice A l.length c, .int .i64 n] rfl ?_
  refine ⟨rfl, br_split (fun hq => ?_) (fun hq => ?_)⟩
  · have hq : (n : Int) < (l.length : Int) := hq
    obtain ⟨A', hA', h1, h2⟩ := rb_front h hA (n := n) (by omega)
    refine ⟨⟨by decide, by omega, by show (n : Int) ≤ (c : Int); omega⟩, ret_plain rfl fun W' lw => ?_⟩
    have e : (l.take n).length = n := by rw [List.length_take]; omega
    refine ⟨A', ?_, h1, h2.mono lw⟩
    rw [e, ← hA']; rfl
  · have hq : ¬ (n : Int) < (l.length : Int) := hq
    refine ret_plain rfl fun W' lw => ?_
    rw [List.take_of_length_le (by omega)]
    exact ⟨A, rfl, hA, h.mono lw⟩
theorem byte_one (l : List UInt8) : ∀ u ∈ l.map byteV, u.oneCell' = true := fun u hu => by
  obtain ⟨c, _, rfl⟩ := List.mem_map.1 hu
  rfl
theorem copyb_x (l : List UInt8) (hl : l.length ≤ 1000000) (A : Option Addr) (c : Nat) (W : PW) (h : RB W (.slice A l.length c) l) :
    CallsX Tryz.prog 10 ⟨[.slice A l.length c]⟩ [] W fun v W' => ∃ A' c', v = .slice A' l.length c' ∧ OwnS [] W.w.heap.size W' (bufO (.slice A' l.length c') l) := by
  have hmax : (100000000 : Nat) ≤ maxLen := by decide
  refine pureNX hmix Tryz.func10 r10 (by kernel_rfl) [nilO 5 1] rfl [.slice A l.length c] rfl ?_
  refine ⟨0, _, l.map byteV, rfl, rfl, rfl, rfl, by rw [List.length_map, Nat.mul_one], byte_one l, fun hn => ?_, by show 0 + l.length ≤ _; omega, by show (0 + l.length) * 1 ≤ _; omega, rfl, @fun A' c' _ => ?_⟩
  · obtain ⟨A2, c2, e, _, _, h3⟩ := h
    simp only [Value.slice.injEq] at e
    obtain ⟨rfl, _, rfl⟩ := e
    obtain ⟨a, e, hr⟩ := h3 hn
    exact ⟨a, e, hr.o⟩
  · refine ret_own (i := 0) (xs := []) rfl rfl rfl fun W' lw ho => ?_
    have e : (⟨.slice A' (0 + l.length) c', 5, 1, 0 + l.length, [] ++ l.map byteV⟩ : Own) = bufO (.slice A' l.length c') l := by
      rw [Nat.zero_add]; rfl
    refine ⟨A', c', by show Value.slice A' (0 + l.length) c' = _; rw [Nat.zero_add], ?_⟩
    rw [← e]; exact ho
def nilS : Value := .slice none 0 0
theorem plainz_x (W : PW) : CallsX Tryz.prog 7 ⟨[.agg ⟨reqC [] [] nilS nilS nilS⟩]⟩ [] W fun v _ => v = .agg ⟨reqC [] [] nilS nilS nilS⟩ := by
  refine pureX hmix Tryz.func7 r7 (by kernel_rfl) [.agg ⟨reqC [] [] nilS nilS nilS⟩] rfl ?_
  exact ret_plain rfl fun _ _ => rfl
theorem sameb0_x (W : PW) : CallsX Tryz.prog 19 ⟨[nilS, nilS]⟩ [] W fun v _ => v = .bool true := by
  refine pureX hmix Tryz.func19 r19 (by kernel_rfl) [nilS, nilS] rfl ?_
  refine ⟨rfl, ?_⟩
  refine ⟨Unit, fun _ => [(5, .v (.int .i64 0))], fun _ => [], fun _ => [], fun _ _ => True, fun _ => 0, (),
    all_sl ⟨rfl, trivial⟩, rfl, ole_refl _, trivial, loopOK (fun _ => ⟨⟨trivial, rfl⟩, trivial⟩) (fun _ => rfl) (fun _ => rfl), ?_⟩
  intro _ W1 l1 _ fr
  refine ⟨rfl, ?_⟩
  exact ret_plain rfl fun _ _ => rfl
theorem samez_x (W : PW) : CallsX Tryz.prog 6 ⟨[.agg ⟨reqC [] [] nilS nilS nilS⟩, .agg ⟨reqC [] [] nilS nilS nilS⟩]⟩ [] W fun v _ => v = .bool true := by
  refine pureX hmix Tryz.func6 r6 (by kernel_rfl) [.agg ⟨reqC [] [] nilS nilS nilS⟩, .agg ⟨reqC [] [] nilS nilS nilS⟩] rfl ?_
  refine call_v rfl (fun W' _ => samep_x [] (by decide) nilS nilS W' (RP.nil _ _) (RP.nil _ _)) (fun W1 v W2 l1 l2 hv => ?_)
  subst hv
  refine call_v rfl (fun W' _ => samep_x [] (by decide) nilS nilS W' (RP.nil _ _) (RP.nil _ _)) (fun W3 v W4 l3 l4 hv => ?_)
  subst hv
  refine call_v rfl (fun W' _ => sameb0_x W') (fun W5 v W6 l5 l6 hv => ?_)
  subst hv
  exact ret_plain rfl fun _ _ => rfl
set_option maxHeartbeats 4000000 in
theorem hfronts_x (b0 m0 : List UInt8) (n0 : Int) (A A2 : Option Addr) (c c2 : Nat) (hA : A = none → c = 0) (hA2 : A2 = none → c2 = 0) (W : PW) (hM : HM W) (hE : HE W) (h1 : RB W (.slice A b0.length c) b0) (h2 : RB W (.slice A2 m0.length c2) m0) :
    CallsX Tryz.prog 3 ⟨[.slice A b0.length c, .int .i64 n0, .slice A2 m0.length c2]⟩ [] W fun v _ => v = .bool true := by
  have hmax : (100000000 : Nat) ≤ maxLen := by decide
  refine pureX hmix Tryz.func3 r3 (by kernel_rfl) [.slice A b0.length c, .int .i64 n0, .slice A2 m0.length c2] rfl ?_
  refine call_v rfl (fun W' lw => cutb_x b0 1500 (by decide) A c hA W' (h1.mono lw)) (fun W1 v W2 l1 l2 hv => ?_)
  obtain ⟨B, rfl, hB, hb⟩ := hv
  obtain ⟨b, hbe⟩ : ∃ b, b0.take 1500 = b := ⟨_, rfl⟩
  have hbl : b.length ≤ 1500 := by rw [← hbe, List.length_take]; omega
  rw [hbe] at hb ⊢
  have lA := l1.trans l2
  have hcap := (rb_cap hb).2.1
  refine call_v rfl (fun W' lw => hparse_x b (by omega) B c hB W' (hM.mono (lA.trans lw)) (hE.mono (lA.trans lw)) (hb.mono lw)) (fun W3 v W4 l3 l4 hv => ?_)
  have lB := lA.trans (l3.trans l4)
  have hlive : ∀ W', W4.Le W' → CallsX Tryz.prog 8 ⟨[]⟩ [] W' fun v _ => v = .bool true := fun W' lw => hlives_x W' (hM.mono (lB.trans lw)) (hE.mono (lB.trans lw))
  rcases http_two b with ⟨f, hf⟩ | ⟨e, he, hf⟩
  · rw [hf] at hv
    obtain ⟨q, D, n, d, D', n', d', rfl, hq⟩ := hv
    obtain ⟨aq, cq, rfl, _, _⟩ := hq.form
    have h0 : (httpS b).1 = 0 := by rw [hf]
    obtain ⟨i, _, _, _, _, hi, _⟩ := http_ok h0
    refine ⟨_, rfl, _, rfl, rfl, rfl, ((b.length - 1 : Nat) : Int), (by show ((b.length - 1 : Nat) : Int) = IntKind.i64.wrap ((b.length : Int) - 1); rw [i64_in _ ⟨by omega, by omega⟩]; omega), ?_⟩
    refine call_v rfl (fun W' _ => within_x n0 0 _ W') (fun W5 v W6 l5 l6 hv => ?_)
    obtain ⟨k, hk, hke⟩ := within_nn n0 (b.length - 1)
    rw [hke] at hv
    subst hv
    have lC := l3.trans (l4.trans (l5.trans l6))
    obtain ⟨B2, hB2e, hB2, hfr⟩ := rb_front hb hB (n := k) (by omega)
    have hkl : (b.take k).length = k := by rw [List.length_take]; omega
    have h3 := http_is (http_front h0 (n := k) (by omega)) (by decide)
    have hp3 : ∀ W', W6.Le W' → CallsX Tryz.prog 5 ⟨[.slice (if c = 0 then B else B.map (·.add (0 * 1))) k c]⟩ [] W' fun v W'' => ParsR W'' v (3, none) := fun W' lw => by
      have := hparse_x (b.take k) (by omega) B2 c hB2 W' (hM.mono (lA.trans (lC.trans lw))) (hE.mono (lA.trans (lC.trans lw))) (hfr.mono (lC.trans lw))
      rw [hkl, h3, ← hB2e] at this
      exact this
    refine ⟨⟨by decide, by omega, by show (k : Int) ≤ (c : Int); omega⟩, ?_⟩
    refine call_v rfl (fun W' lw => hp3 W' lw) (fun W7 v W8 l7 l8 hv => ?_)
    have hv : v = .tuple ⟨[.agg ⟨reqC [] [] nilS nilS nilS⟩, .int .i64 3]⟩ := hv
    subst hv
    refine ⟨_, rfl, _, rfl, rfl, ?_⟩
    have lD := lC.trans (l7.trans l8)
    refine call_v rfl (fun W' lw => cutb_x m0 50 (by decide) A2 c2 hA2 W' (h2.mono (lA.trans (lD.trans lw)))) (fun W9 v W10 l9 l10 hv => ?_)
    obtain ⟨M, rfl, hM2, hm⟩ := hv
    obtain ⟨m, hme⟩ : ∃ m, m0.take 50 = m := ⟨_, rfl⟩
    have hml : m.length ≤ 50 := by rw [← hme, List.length_take]; omega
    rw [hme] at hm ⊢
    have lE := lD.trans (l9.trans l10)
    refine ⟨rfl, br_split (fun h0 => ?_) (fun h0 => ?_)⟩
    · refine call_v rfl (fun W' lw => hlive W' ((l5.trans (l6.trans (l7.trans (l8.trans (l9.trans l10))))).trans lw)) (fun W11 v W12 l11 l12 hv => ?_)
      subst hv
      exact ret_plain rfl fun _ _ => rfl
    · have h0' : ¬ (m.length : Int) = 0 := h0
      have hmne : m ≠ [] := fun e => h0' (by rw [e]; rfl)
      refine call_ownR rfl (fun W' lw => (copyb_x b (by omega) B c W' (hb.mono (lE.trans lw))).mono fun v W12 hv l12 => ?_)
      obtain ⟨C, cc, rfl, ho⟩ := hv
      refine ⟨_, ho, ?_⟩
      have hm12 := (hm.mono lw).mono l12
      refine ⟨0, _, m.map byteV, rfl, rfl, rfl, rfl, by rw [List.length_map, Nat.mul_one], byte_one m, fun hn => ?_, by show b.length + m.length ≤ _; omega, by show (b.length + m.length) * 1 ≤ _; omega, rfl, @fun A' c' hat => ?_⟩
      · obtain ⟨A3, c3, e, _, _, h3⟩ := hm12
        simp only [Value.slice.injEq] at e
        obtain ⟨rfl, _, rfl⟩ := e
        obtain ⟨a, e, hr⟩ := h3 hn
        exact ⟨a, e, hr.o⟩
      · refine CallVC.freeze (i := 0) (fun _ hb => hb) rfl rfl k5 (fun W13 l13 hs => ?_)
        have h6 := http_is (http_rest (by rw [hf]) hmne) (by decide)
        obtain ⟨g, rfl⟩ : ∃ g, A' = some ⟨g, 0, none⟩ := hat (by show 0 < b.length + m.length; omega)
        have hrb : RB W13 (.slice (some ⟨g, 0, none⟩) (b ++ m).length c') (b ++ m) := by
          unfold RB
          rw [List.length_append, List.map_append]
          exact hs
        have lF := lE.trans (lw.trans (l12.trans l13))
        have hp6 : ∀ W', W13.Le W' → CallsX Tryz.prog 5 ⟨[.slice (some ⟨g, 0, none⟩) (b.length + m.length) c']⟩ [] W' fun v W'' => ParsR W'' v (6, none) := fun W' lw => by
          have := hparse_x (b ++ m) (by rw [List.length_append]; omega) (some ⟨g, 0, none⟩) c' (fun e => by cases e) W' (hM.mono (lA.trans (lF.trans lw))) (hE.mono (lA.trans (lF.trans lw))) (hrb.mono lw)
          rw [h6, List.length_append] at this
          exact this
        refine call_v rfl (fun W' lw => hp6 W' lw) (fun W14 v W15 l14 l15 hv => ?_)
        have hv : v = .tuple ⟨[.agg ⟨reqC [] [] nilS nilS nilS⟩, .int .i64 6]⟩ := hv
        subst hv
        refine ⟨_, rfl, _, rfl, rfl, ?_⟩
        refine call_v rfl (fun W' lw2 => hlive W' ((l5.trans (l6.trans (l7.trans (l8.trans (l9.trans (l10.trans (lw.trans (l12.trans (l13.trans (l14.trans l15)))))))))).trans lw2)) (fun W16 v W17 l16 l17 hv => ?_)
        subst hv
        exact ret_plain rfl fun _ _ => rfl
  · rw [hf] at hv
    have hv : v = .tuple ⟨[.agg ⟨reqC [] [] nilS nilS nilS⟩, .int .i64 e]⟩ := hv
    subst hv
    refine ⟨_, rfl, _, rfl, rfl, br_nsplit (fun _ => ?_) (fun h => absurd h he)⟩
    refine call_v (vs := [.agg ⟨reqC [] [] nilS nilS nilS⟩]) rfl (fun W' _ => plainz_x W') (fun W5 v W6 l5 l6 hv => ?_)
    subst hv
    refine call_v (vs := [.agg ⟨reqC [] [] nilS nilS nilS⟩, .agg ⟨reqC [] [] nilS nilS nilS⟩]) rfl (fun W' _ => samez_x W') (fun W7 v W8 l7 l8 hv => ?_)
    subst hv
    refine call_v rfl (fun W' lw => hlive W' ((l5.trans (l6.trans (l7.trans l8))).trans lw)) (fun W9 v W10 l9 l10 hv => ?_)
    subst hv
    exact ret_plain rfl fun _ _ => rfl
end Go.Proofs.YtkhgmmejgikgnaaGreatDoor
