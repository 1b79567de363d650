/- The statements LexReads and LexBack, walked. -/
import Derived.Test.YtcgbcbdgjhnlaaaLexJ
import Derived.Test.YtcgbcbdgjhnlaaaLexR
namespace Go.Proofs.Ytcgbcbdgjhnlaaa
open Go.RowKit

theorem two_len (p : UInt8 → Bool) (l : List UInt8) : (l.takeWhile p).length + (l.dropWhile p).length = l.length := by
  rw [← List.length_append, List.takeWhile_append_dropWhile]
theorem tokS_txtlen {c : UInt8} {r rest t : List UInt8} {k : Nat} (h : tokS c r = some (k, t, rest)) (n : Nat) : (Tok.txt ⟨k, t, n⟩).length + rest.length ≤ (c :: r).length := by
  unfold tokS at h
  split at h
  · simp only [Option.some.injEq, Prod.mk.injEq] at h
    obtain ⟨rfl, rfl, rfl⟩ := h
    have := two_len nameB r
    simp only [Tok.txt, show ¬ (1 = 2) by decide, if_false, List.length_cons]; omega
  · split at h
    · split at h
      · rename_i d r' hr
        split at h
        · simp only [Option.some.injEq, Prod.mk.injEq] at h
          obtain ⟨rfl, rfl, rfl⟩ := h
          have := two_len textB r
          rw [hr] at this
          simp only [Tok.txt, if_true, List.length_cons, List.length_append, List.length_nil] at *; omega
        · cases h
      · cases h
    · split at h
      · rename_i r' hr
        simp only [Option.some.injEq, Prod.mk.injEq] at h
        obtain ⟨rfl, rfl, rfl⟩ := h
        split at hr
        · split at hr
          · split at hr
            · simp only [Option.some.injEq] at hr; subst hr
              simp only [Tok.txt, show ¬ (3 = 2) by decide, if_false, List.length_cons, List.length_nil]; omega
            · cases hr
          · cases hr
        · cases hr
      · split at h
        · simp only [Option.some.injEq, Prod.mk.injEq] at h
          obtain ⟨rfl, rfl, rfl⟩ := h
          simp only [Tok.txt, show ¬ (3 = 2) by decide, if_false, List.length_cons, List.length_nil]; omega
        · cases h
theorem lexF_join : ∀ (n : Nat) (s : List UInt8) (l : List Tok), lexF n s = some l → (joinT l).length ≤ 2 * s.length
  | 0, s, l, h => by simp [lexF] at h
  | n + 1, s, l, h => by
    simp only [lexF] at h
    have h0 := skipM_len false s
    split at h
    · simp only [Option.some.injEq] at h; subst h; simp [joinT]
    · rename_i c r hc
      rw [hc] at h0; simp only [List.length_cons] at h0
      split at h
      · cases h
      · rename_i k t rest ht
        split at h
        · cases h
        · rename_i l' hl'
          simp only [Option.some.injEq] at h; subst h
          have h1 := lexF_join n rest l' hl'
          have h2 := tokS_txtlen ht (c :: r).length
          have h3 := okT_pos (tokS_ok ht) (c :: r).length
          simp only [List.length_cons] at h2 h3
          cases l' with
          | nil => simp only [joinT, List.length_cons]; omega
          | cons y l' =>
            simp only [joinT, List.length_append, List.length_cons] at h1 ⊢; omega
theorem lexA_two {s : List UInt8} (hs : s.length ≤ 1000) : (∃ l, lexS s = some l ∧ lexA s = (l, 0) ∧ TokB l) ∨ (lexA s = ([], 4)) := by
  unfold lexA
  rw [if_neg (by omega)]
  cases h : lexS s with
  | none => exact .inr rfl
  | some l =>
    refine .inl ⟨l, rfl, rfl, ?_, fun x hx => ?_⟩
    · have := (lexF_cnt _ _ _ h).1; omega
    · have := lexF_tlen _ _ _ h x hx; omega
set_option maxRecDepth 20000 in
set_option maxHeartbeats 2000000 in
theorem lexreads_x (s0 : List UInt8) (W : PW) : CallsX Try.prog 5 ⟨[strV s0]⟩ [] W fun v _ => v = .bool true := by
  refine pureX hmix Try.func5 r5 (by kernel_rfl) [strV s0] rfl ?_
  refine call_v rfl (fun W' => fun _ => short_x s0 400 W') (fun W1 v W1' _ _ h => ?_)
  obtain ⟨s, hs, rfl⟩ : ∃ s, s.length ≤ 400 ∧ v = strV s := ⟨_, by simp; omega, h⟩
  obtain ⟨a, e, hA, hB⟩ : ∃ a e, lexA s = (a, e) ∧ TokB a := by
    rcases lexA_two (s := s) (by omega) with ⟨l, _, h, hb⟩ | h
    · exact ⟨_, _, h, hb⟩
    · exact ⟨_, _, h, by simp, by simp⟩
  refine call_v rfl (fun W' _ => lex_x s W') (fun W4 v W5 _ l5 hv => ?_)
  rw [hA] at hv
  dsimp only at hv
  obtain ⟨ua, rfl, hua⟩ := hv
  refine ⟨_, rfl, _, rfl, ?_⟩
  refine call_v rfl (fun W' _ => reflex_x s W') (fun W6 v W7 l6 l7 hv => ?_)
  rw [hA] at hv
  dsimp only at hv
  obtain ⟨ub, rfl, hub⟩ := hv
  have hua := hua.mono (l6.trans l7)
  refine ⟨_, rfl, _, rfl, ?_⟩
  refine call_v rfl (fun W' l => lexsame_x a s.length ua ub W' (by have := hB.1; omega) (hua.mono l) (hub.mono l)) (fun W8 v W9 l8 l9 hv => ?_)
  subst hv
  refine ⟨rfl, br_split (fun _ => ?_) (fun h => absurd rfl h)⟩
  have hua := hua.mono (l8.trans l9)
  have hub := hub.mono (l8.trans l9)
  refine call_v rfl (fun W' l => lexjoin_x a s.length ua hB W' (hua.mono l)) (fun W10 v W11 l10 l11 hv => ?_)
  have hub := hub.mono (l10.trans l11)
  obtain ⟨p, hp, rfl⟩ : ∃ p, joinT a = p ∧ v = strV p := ⟨_, rfl, hv⟩
  refine call_v rfl (fun W' l => refjoin_x a s.length ub hB W' (hub.mono l)) (fun W12 v W13 _ _ hv => ?_)
  rw [hp] at hv
  subst hv
  refine br_split (fun _ => ?_) (fun h => absurd rfl h)
  refine call_v rfl (fun W' _ => lexlives_x W') (fun W5 v W6 _ _ hv => ?_)
  subst hv
  exact ret_plain rfl fun _ _ => rfl
set_option maxRecDepth 20000 in
set_option maxHeartbeats 2000000 in
theorem lexback_x (s0 : List UInt8) (W : PW) : CallsX Try.prog 6 ⟨[strV s0]⟩ [] W fun v _ => v = .bool true := by
  refine pureX hmix Try.func6 r6 (by kernel_rfl) [strV s0] rfl ?_
  refine call_v rfl (fun W' => fun _ => short_x s0 400 W') (fun W1 v W1' _ _ h => ?_)
  obtain ⟨s, hs, rfl⟩ : ∃ s, s.length ≤ 400 ∧ v = strV s := ⟨_, by simp; omega, h⟩
  refine call_v rfl (fun W' _ => lex_x s W') (fun W4 v W5 _ l5 hv => ?_)
  rcases lexA_two (s := s) (by omega) with ⟨a, hS, hA, hB⟩ | hA
  · rw [hA] at hv
    dsimp only at hv
    obtain ⟨ua, rfl, hua⟩ := hv
    refine ⟨_, rfl, _, rfl, rfl, ?_⟩
    refine call_v rfl (fun W' l => lexjoin_x a s.length ua hB W' (hua.mono l)) (fun W10 v W11 l10 l11 hv => ?_)
    have hua := hua.mono (l10.trans l11)
    obtain ⟨b, hb, hmap⟩ := lex_back hS
    have hjl := lexF_join _ _ _ hS
    obtain ⟨p, hp, rfl⟩ : ∃ p, joinT a = p ∧ v = strV p := ⟨_, rfl, hv⟩
    rw [hp] at hb hjl
    have hA2 : lexA p = (b, 0) := by unfold lexA; rw [if_neg (by omega), hb]
    refine call_v rfl (fun W' _ => lex_x p W') (fun W12 v W13 l12 l13 hv => ?_)
    rw [hA2] at hv
    dsimp only at hv
    obtain ⟨ub, rfl, hub⟩ := hv
    have hua := hua.mono (l12.trans l13)
    have hlen : a.length = b.length := by have := congrArg List.length hmap; simpa using this.symm
    have hl1 := hB.1
    obtain ⟨Aa, ca, rfl, _, _⟩ := hua.form
    obtain ⟨Ab, cb, rfl, _, _⟩ := hub.form
    refine ⟨_, rfl, _, rfl, rfl, rfl, br_nsplit (fun h => absurd (by show (a.length : Int) = b.length; omega) h) (fun _ => ?_)⟩
    refine ⟨Nat, fun i => [(7, .v (.int .i64 i))], fun _ => [], fun _ => [], fun i _ => i ≤ a.length, fun i => a.length - i, 0,
      all_sl ⟨rfl, trivial⟩, rfl, ole_refl _, Nat.zero_le _, loopOK (fun _ => ⟨⟨trivial, rfl⟩, trivial⟩) (fun _ => rfl) (fun _ => rfl), ?_⟩
    rintro i W1 l1 hi f
    refine ⟨rfl, br_split (fun hq => ?_) (fun hq => ?_)⟩
    · have hq : (i : Int) < a.length := hq
      obtain ⟨q, rfl, x, hx, hr, _, _⟩ := hua.at (sz := 3) (tokC_len _) l1 (j := i) ⟨by omega, hq⟩
      obtain ⟨q', rfl, x', hx', hr', _, _⟩ := hub.at (sz := 3) (tokC_len _) l1 (j := i) ⟨by omega, by omega⟩
      have hx : a[i]? = some x := hx
      have hx' : b[i]? = some x' := hx'
      have he : (x'.k, x'.t) = (x.k, x.t) := by
        have h1 : (b.map fun x => (x.k, x.t))[i]? = some (x'.k, x'.t) := by rw [List.getElem?_map, hx']; rfl
        rw [hmap, List.getElem?_map, hx] at h1
        exact (Option.some.inj h1).symm
      simp only [Prod.mk.injEq] at he
      have v0 := (hr' 0 (.int .i64 x'.k) rfl)
      rw [he.1] at v0
      have v1 := (hr' 1 (strV x'.t) rfl)
      rw [he.2] at v1
      refine ⟨⟨by omega, hq⟩, q, rfl, .int .i64 x.k, (hr 0 (.int .i64 x.k) rfl).o, ⟨by omega, by show (i : Int) < b.length; omega⟩, q', rfl, .int .i64 x.k, v0.o, rfl, br_nsplit (fun h => absurd rfl h) (fun _ => ?_)⟩
      refine ⟨⟨by omega, hq⟩, q, rfl, strV x.t, (hr 1 (strV x.t) rfl).o, ⟨by omega, by show (i : Int) < b.length; omega⟩, q', rfl, strV x.t, v1.o, br_nsplit (fun h => absurd rfl h) (fun _ => ?_)⟩
      exact ⟨rfl, _, (i64_in ((i : Int) + 1) ⟨by omega, by omega⟩).symm, i + 1, all_sl ⟨rfl, trivial⟩, rfl, ole_refl _, by omega, by dsimp only; omega⟩
    · refine call_v rfl (fun W' _ => lexlives_x W') (fun W5 v W6 _ _ hv => ?_)
      subst hv
      exact ret_plain rfl fun _ _ => rfl
  · rw [hA] at hv
    dsimp only at hv
    obtain ⟨ua, rfl, hua⟩ := hv
    obtain ⟨Aa, ca, rfl, _, _⟩ := hua.form
    refine ⟨_, rfl, _, rfl, rfl, rfl, ?_⟩
    refine call_v rfl (fun W' _ => lexlives_x W') (fun W5 v W6 _ _ hv => ?_)
    subst hv
    exact ret_plain rfl fun _ _ => rfl
end Go.Proofs.Ytcgbcbdgjhnlaaa
