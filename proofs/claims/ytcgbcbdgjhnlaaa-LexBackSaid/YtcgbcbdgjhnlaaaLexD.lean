/- The document's Lex, walked: letters, signs, tokens; and 'same'. -/
import Derived.Test.YtcgbcbdgjhnlaaaLexU
import Derived.Test.YtcgbcbdgjhnlaaaLexN
namespace Go.Proofs.Ytcgbcbdgjhnlaaa
open Go.RowKit

theorem refletter_x : PredB 82 nameB := by
  intro c W
  refine pureX hmix Try.func82 r82 (by kernel_rfl) [.int .u8 c.toNat] rfl ?_
  refine ⟨rfl, ?_⟩
  repeat' first
    | refine ⟨rfl, ?_⟩
    | refine br_split (fun h => ?_) (fun h => ?_)
    | refine ret_plain rfl fun _ _ => ?_
  all_goals (congr 1; rw [Bool.eq_iff_iff]; simp only [nameB, Bool.or_eq_true, Bool.and_eq_true, decide_eq_true_eq, true_iff]; omega)
def signN (c : UInt8) (r : List UInt8) : Int := if (c :: r).take 2 = [45, 62] then 2 else if c ∈ signL then 1 else 0
theorem refsign_x (s : List UInt8) (hs : s.length ≤ 16384) (i : Nat) (c : UInt8) (r : List UInt8) (hc : s.drop i = c :: r) (W : PW) :
    CallsX Try.prog 83 ⟨[strV s, .int .i64 i]⟩ [] W fun v _ => v = .int .i64 (signN c r) := by
  obtain ⟨hg, hr, hlt⟩ := drop_get hc
  have hb : byteAt s (i : Int).toNat = c.toNat := byteAt_get hg
  have hlen : s.length = i + 1 + r.length := by have := congrArg List.length hr; simp at this; omega
  have w1 : IntKind.i64.wrap ((i : Int) + 1) = (i : Int) + 1 := i64_in _ ⟨by omega, by omega⟩
  refine pureX hmix Try.func83 r83 (by kernel_rfl) [strV s, .int .i64 i] rfl ?_
  have hb2 : ∀ d r', r = d :: r' → byteAt s ((i : Int) + 1).toNat = d.toNat := fun d r' e => by
    rw [show ((i : Int) + 1).toNat = i + 1 by omega]
    exact byteAt_get (drop_get (hr.trans e)).1
  refine ⟨rfl, _, w1.symm, rfl, br_split (fun h1 => ?p1) (fun h1 => ?q1)⟩
  case' p1 =>
    have h1 : (i : Int) + 1 < s.length := h1
    obtain ⟨d, r', hd⟩ : ∃ d r', r = d :: r' := by
      cases r with
      | nil => simp at hlen; omega
      | cons d r' => exact ⟨_, _, rfl⟩
    refine ⟨⟨by omega, show (i : Int) < s.length by omega⟩, rfl, br_split (fun h2 => ?p2) (fun h2 => ?q2)⟩
  case' p2 =>
    have h2 : byteAt s (i : Int).toNat = 45 := h2
    refine ⟨rfl, _, w1.symm, ⟨by omega, h1⟩, rfl, br_split (fun h3 => ?p3) (fun h3 => ?q3)⟩
  case p3 =>
    have h3 : byteAt s ((i : Int) + 1).toNat = 62 := h3
    rw [hb] at h2
    rw [hb2 d r' hd] at h3
    refine ret_plain rfl fun _ _ => ?_
    have e1 : c = 45 := UInt8.toNat_inj.1 (by show c.toNat = 45; omega)
    have e2 : d = 62 := UInt8.toNat_inj.1 (by show d.toNat = 62; omega)
    subst e1 e2 hd
    rfl
  case' q3 =>
    have hn : ¬ (c :: r).take 2 = [45, 62] := by
      have h3 : ¬ byteAt s ((i : Int) + 1).toNat = 62 := h3
      rw [hb2 d r' hd] at h3
      intro e
      rw [hd] at e
      simp only [List.take_succ_cons, List.take_zero, List.cons.injEq, and_true] at e
      rw [e.2] at h3; exact h3 rfl
  case' q2 =>
    have hn : ¬ (c :: r).take 2 = [45, 62] := by
      have h2 : ¬ byteAt s (i : Int).toNat = 45 := h2
      rw [hb] at h2
      intro e
      rw [hd] at e
      simp only [List.take_succ_cons, List.take_zero, List.cons.injEq, and_true] at e
      rw [e.1] at h2; exact h2 rfl
  case' q1 =>
    have hn : ¬ (c :: r).take 2 = [45, 62] := by
      have h1 : ¬ (i : Int) + 1 < s.length := h1
      intro e
      cases r with
      | nil => simp at e
      | cons d r' => simp only [List.length_cons] at hlen; omega
  all_goals
    have hS : signN c r = if c ∈ signL then 1 else 0 := if_neg hn
    refine ⟨Nat, fun j => [(6, .v (.int .i64 j))], fun _ => [], fun _ => [], fun j _ => j ≤ 12 ∧ c ∉ signL.take j, fun j => 12 - j, 0,
      all_sl ⟨rfl, trivial⟩, rfl, ole_refl _, ⟨Nat.zero_le _, by simp⟩, loopOK (fun _ => ⟨⟨trivial, rfl⟩, trivial⟩) (fun _ => rfl) (fun _ => rfl), ?_⟩
    rintro j W1 l1 ⟨hj, hI⟩ f
    refine ⟨rfl, br_split (fun h => ?_) (fun h => ?_)⟩
    · have h : (j : Int) < 12 := h
      have hj2 : j < 12 := by omega
      have hjl : j < signL.length := hj2
      have hbt : byteAt signL (j : Int).toNat = (signL[j]).toNat := byteAt_get (List.getElem?_eq_getElem hjl)
      refine ⟨⟨by omega, h⟩, ⟨by omega, show (i : Int) < s.length by omega⟩, rfl, br_split (fun he => ?_) (fun he => ?_)⟩
      · have he : byteAt signL (j : Int).toNat = byteAt s (i : Int).toNat := he
        rw [hb, hbt] at he
        refine ret_plain rfl fun _ _ => ?_
        have : c ∈ signL := by
          have e : signL[j] = c := UInt8.toNat_inj.1 (by omega)
          rw [← e]; exact List.getElem_mem hjl
        rw [hS, if_pos this]
      · have he : ¬ byteAt signL (j : Int).toNat = byteAt s (i : Int).toNat := he
        rw [hb, hbt] at he
        refine ⟨rfl, _, (i64_in ((j : Int) + 1) ⟨by omega, by omega⟩).symm, j + 1, all_sl ⟨rfl, trivial⟩, rfl, ole_refl _, ⟨hj2, fun hm => ?_⟩, by dsimp only; omega⟩
        rw [List.take_add_one, List.getElem?_eq_getElem hjl] at hm
        rcases List.mem_append.1 hm with hm | hm
        · exact hI hm
        · simp at hm; subst hm; omega
    · have h : ¬ (j : Int) < 12 := h
      refine ret_plain rfl fun _ _ => ?_
      have : j = 12 := by omega
      subst this
      rw [hS, if_neg (show ¬ c ∈ signL from hI)]
/-- Behind a remark's first signs. -/
theorem lexF_line {r : List UInt8} (h : r.take 2 = [47, 47]) (n : Nat) : lexF n r = lexF n (r.dropWhile lineB) := by
  have hb : r.dropWhile blankB = r := by
    cases r with
    | nil => rfl
    | cons c r =>
      have : c = 47 := by
        cases r with
        | nil => simp at h
        | cons d r => simp at h; exact h.1
      subst this; rfl
  have := skip_run r
  rw [hb, if_pos h] at this
  cases n with
  | zero => rfl
  | succ n => simp only [lexF, this]
theorem blank_of {c : UInt8} (h : (c.toNat : Int) = 32 ∨ (c.toNat : Int) = 9 ∨ (c.toNat : Int) = 10 ∨ (c.toNat : Int) = 13) : blankB c = true := by
  simp only [blankB, Bool.or_eq_true, decide_eq_true_eq]; omega
theorem blank_not {c : UInt8} (h1 : ¬ (c.toNat : Int) = 32) (h2 : ¬ (c.toNat : Int) = 9) (h3 : ¬ (c.toNat : Int) = 10) (h4 : ¬ (c.toNat : Int) = 13) : blankB c = false := by
  rw [Bool.eq_false_iff]
  simp only [blankB, ne_eq, Bool.or_eq_true, decide_eq_true_eq]; omega
theorem tw_step {p : UInt8 → Bool} {s : List UInt8} {k : Nat} (hk : k < s.length) (h : p s[k] = true) : k + ((s.drop k).takeWhile p).length = k + 1 + ((s.drop (k + 1)).takeWhile p).length := by
  rw [List.drop_eq_getElem_cons hk, List.takeWhile_cons, h]; simp; omega
theorem tw_stop {p : UInt8 → Bool} {s : List UInt8} {k : Nat} (hk : k < s.length) (h : p s[k] = false) : ((s.drop k).takeWhile p).length = 0 := by
  rw [List.drop_eq_getElem_cons hk, List.takeWhile_cons, h]; rfl
theorem tw_end {p : UInt8 → Bool} {s : List UInt8} {k : Nat} (hk : s.length ≤ k) : ((s.drop k).takeWhile p).length = 0 := by
  rw [List.drop_eq_nil_of_le hk]; rfl
/-- Where what is alike ends: the run, what is behind it. -/
theorem tw_done {p : UInt8 → Bool} {s : List UInt8} {i k : Nat} (h : i + ((s.drop i).takeWhile p).length = k + ((s.drop k).takeWhile p).length) (h0 : ((s.drop k).takeWhile p).length = 0) : (s.drop i).take (k - i) = (s.drop i).takeWhile p ∧ s.drop k = (s.drop i).dropWhile p := by
  have e : ((s.drop i).takeWhile p).length = k - i := by omega
  rw [← take_takeWhile, e, ← drop_takeWhile, e, List.drop_drop, show i + (k - i) = k by omega]
  exact ⟨rfl, rfl⟩
theorem signN_two {c : UInt8} {r : List UInt8} (h : signN c r = 2) : ∃ r', r = 62 :: r' ∧ c = 45 := by
  unfold signN at h
  split at h
  · rename_i hp
    cases r with
    | nil => simp at hp
    | cons d r => simp at hp; exact ⟨r, by rw [hp.2], hp.1⟩
  · split at h <;> omega
theorem signN_cases (c : UInt8) (r : List UInt8) : signN c r = 2 ∨ (¬ (c :: r).take 2 = [45, 62] ∧ (signN c r = 1 ∧ c ∈ signL ∨ signN c r = 0 ∧ ¬ c ∈ signL)) := by
  unfold signN
  split
  · exact .inl rfl
  · rename_i h
    refine .inr ⟨h, ?_⟩
    split
    · rename_i h1; exact .inl ⟨rfl, h1⟩
    · rename_i h1; exact .inr ⟨rfl, h1⟩
set_option maxRecDepth 20000 in
set_option maxHeartbeats 4000000 in
theorem reflex_x (s : List UInt8) (W : PW) : CallsX Try.prog 25 ⟨[strV s]⟩ [] W fun v W' => ∃ u, v = .tuple ⟨[u, .int .i64 (lexA s).2]⟩ ∧ RP (tokC s.length) W' u (lexA s).1 := by
  refine pureNX hmix Try.func25 r25 (by kernel_rfl) [nilO 143 3] rfl [strV s] rfl ?_
  refine ⟨rfl, br_split (fun h => ?_) (fun h => ?_)⟩
  · have h : (16384 : Int) < s.length := h
    refine ret_plain rfl fun W' _ => ⟨.slice none 0 0, ?_, ?_⟩
    · rw [lexA, if_pos (by omega)]
    · rw [lexA, if_pos (by omega)]; exact RP.nil _ _
  have h : ¬ (16384 : Int) < s.length := h
  have hs : s.length ≤ 16384 := by omega
  have hA : lexA s = match lexS s with | some l => (l, 0) | none => ([], 4) := by rw [lexA, if_neg (by omega)]; rfl
  refine ⟨Nat × Value × List Tok, fun t => [(4, .v t.2.1), (5, .v (.int .i64 t.1))], fun _ => [], fun t => [⟨t.2.1, 143, 3, t.2.2.length, (t.2.2.map (tokC s.length)).flatten⟩],
    fun t _ => t.1 ≤ s.length ∧ t.2.2.length ≤ t.1 ∧ (∃ A c, t.2.1 = .slice A t.2.2.length c) ∧ ∀ n, (s.drop t.1).length < n → lexS s = appT t.2.2 (lexF n (s.drop t.1)), fun t => s.length - t.1, (0, .slice none 0 0, []),
    all_sl ⟨rfl, rfl, trivial⟩, rfl, ole_refl _, ⟨Nat.zero_le _, Nat.le_refl _, ⟨none, 0, rfl⟩, fun n hn => ?_⟩, loopOK (fun _ => ⟨⟨trivial, rfl⟩, ⟨trivial, rfl⟩, trivial⟩) (fun _ => rfl) (fun _ => rfl), ?_⟩
  · show lexS s = appT [] (lexF n s)
    rw [lexF_more n (s.length + 1) s hn (Nat.lt_succ_self _)]
    unfold lexS
    cases lexF (s.length + 1) s <;> rfl
  rintro ⟨j, u, acc⟩ W1 l1 ⟨h1, h2, ⟨A, c0, hu⟩, h3⟩ f
  dsimp only at h1 h2 hu h3
  subst hu
  have h3' := h3 _ (Nat.lt_succ_self _)
  refine ⟨rfl, br_split (fun hq => ?_) (fun hq => ?_)⟩
  rotate_left
  · have hq : ¬ (j : Int) < s.length := hq
    rw [List.drop_eq_nil_of_le (by omega), lexF_nil _ (by simp)] at h3'
    have e : lexA s = (acc, 0) := by rw [hA, h3']; simp [appT]
    refine RetVC.freeze (fun _ hb => hb) (i := 0) rfl fun W3 _ hf => ret_plain rfl fun W4 l4 => ?_
    rw [e]
    exact ⟨_, rfl, hf.mono l4⟩
  have hq : (j : Int) < s.length := hq
  have hjl : j < s.length := by omega
  have hc : s.drop j = s[j] :: s.drop (j + 1) := List.drop_eq_getElem_cons hjl
  have hbt : byteAt s (j : Int).toNat = (s[j]).toNat := byteAt_get (List.getElem?_eq_getElem hjl)
  have hcj : s[j]? = some s[j] := List.getElem?_eq_getElem hjl
  generalize s[j] = c at hc hbt hcj
  rw [hc] at h3'
  have hrl : (s.drop (j + 1)).length + 1 = s.length - j := by simp; omega
  have hmax : (20000 : Nat) ≤ maxLen := by decide
  have w1 : IntKind.i64.wrap ((j : Int) + 1) = (j : Int) + 1 := i64_in _ ⟨by omega, by omega⟩
  -- behind a token
  have tok : ∀ (k' : Nat) (t : List UInt8) (m : Nat), blankB c = false → (¬ (c.toNat = 47 ∧ ∃ d r', s.drop (j + 1) = d :: r' ∧ d.toNat = 47)) → tokS c (s.drop (j + 1)) = some (k', t, s.drop m) → j < m → m ≤ s.length →
      ∀ n, (s.drop m).length < n → lexS s = appT (acc ++ [⟨k', t, s.length - j⟩]) (lexF n (s.drop m)) := by
    intro k' t m hb hnr ht hm hml n hn
    rw [h3', lexF_tok hb hnr, ht]
    dsimp only
    rw [lexF_more n (c :: s.drop (j + 1)).length (s.drop m) hn (by simp; omega), show (c :: s.drop (j + 1)).length = s.length - j by simp; omega]
    cases lexF (s.length - j) (s.drop m) <;> simp [appT]
  have bad : blankB c = false → (¬ (c.toNat = 47 ∧ ∃ d r', s.drop (j + 1) = d :: r' ∧ d.toNat = 47)) → tokS c (s.drop (j + 1)) = none → lexA s = ([], 4) := by
    intro hb hnr ht
    rw [lexF_tok hb hnr, ht] at h3'
    rw [hA, h3']; rfl
  refine ⟨⟨by omega, hq⟩, rfl, br_split (fun b1 => ?b1) (fun n1 => ?n1)⟩
  case' n1 => refine ⟨rfl, br_split (fun b2 => ?b2) (fun n2 => ?n2)⟩
  case' n2 => refine ⟨rfl, br_split (fun b3 => ?b3) (fun n3 => ?n3)⟩
  case' n3 => refine ⟨rfl, br_split (fun b4 => ?b4) (fun n4 => ?n4)⟩
  case' b1 =>
    have hbl : blankB c = true := by
      have b1 : byteAt s (j : Int).toNat = 32 := b1
      rw [hbt] at b1; exact blank_of (.inl b1)
  case' b2 =>
    have hbl : blankB c = true := by
      have b2 : byteAt s (j : Int).toNat = 9 := b2
      rw [hbt] at b2; exact blank_of (.inr (.inl b2))
  case' b3 =>
    have hbl : blankB c = true := by
      have b3 : byteAt s (j : Int).toNat = 10 := b3
      rw [hbt] at b3; exact blank_of (.inr (.inr (.inl b3)))
  case' b4 =>
    have hbl : blankB c = true := by
      have b4 : byteAt s (j : Int).toNat = 13 := b4
      rw [hbt] at b4; exact blank_of (.inr (.inr (.inr b4)))
  case' n4 =>
    have hnb : blankB c = false := by
      have n1 : ¬ byteAt s (j : Int).toNat = 32 := n1
      have n2 : ¬ byteAt s (j : Int).toNat = 9 := n2
      have n3 : ¬ byteAt s (j : Int).toNat = 10 := n3
      have n4 : ¬ byteAt s (j : Int).toNat = 13 := n4
      rw [hbt] at n1 n2 n3 n4
      exact blank_not n1 n2 n3 n4
  case b1 | b2 | b3 | b4 =>
    refine ⟨rfl, _, w1.symm, (j + 1, _, acc), all_sl ⟨rfl, rfl, trivial⟩, rfl, ole_refl _, ⟨hjl, by dsimp only; omega, ⟨A, c0, rfl⟩, fun n hn => ?_⟩, by dsimp only; omega⟩
    dsimp only at hn ⊢
    rw [h3', lexF_blank hbl, lexF_more _ n _ (by simp; omega) hn]
  clear n1 n2 n3 n4
  refine ⟨rfl, br_split (fun r1 => ?r1) (fun m1 => ?m1)⟩
  case' r1 => refine ⟨rfl, _, w1.symm, rfl, br_split (fun r2 => ?r2) (fun m2 => ?m2)⟩
  case' r2 =>
    have r2 : (j : Int) + 1 < s.length := r2
    refine ⟨rfl, _, w1.symm, ⟨by omega, r2⟩, rfl, br_split (fun r3 => ?r3) (fun m3 => ?m3)⟩
  case r3 =>
    have r1 : byteAt s (j : Int).toNat = 47 := r1
    have r3 : byteAt s ((j : Int) + 1).toNat = 47 := r3
    have hj2 : j + 1 < s.length := by omega
    have hd : s.drop (j + 1) = s[j + 1] :: s.drop (j + 1 + 1) := List.drop_eq_getElem_cons hj2
    rw [hbt] at r1
    rw [show ((j : Int) + 1).toNat = j + 1 by omega, byteAt_get (List.getElem?_eq_getElem hj2)] at r3
    have e1 : c = 47 := UInt8.toNat_inj.1 (by show c.toNat = 47; omega)
    have e2 : s[j + 1] = 47 := UInt8.toNat_inj.1 (by show s[j + 1].toNat = 47; omega)
    have hl : lexF ((s.drop j).length + 1) (s.drop j) = lexF ((s.drop j).length + 1) ((s.drop j).dropWhile lineB) := lexF_line (by rw [hc, hd, e1, e2]; rfl) _
    refine ⟨Nat, fun k => [(5, .v (.int .i64 k))], fun _ => [], fun _ => [⟨.slice A acc.length c0, 143, 3, acc.length, (acc.map (tokC s.length)).flatten⟩], fun k _ => j ≤ k ∧ k ≤ s.length ∧ j + ((s.drop j).takeWhile lineB).length = k + ((s.drop k).takeWhile lineB).length, fun k => s.length - k, j,
      all_sl ⟨rfl, trivial⟩, rfl, ole_refl _, ⟨Nat.le_refl _, h1, rfl⟩, loopOK (fun _ => ⟨⟨trivial, rfl⟩, trivial⟩) (fun _ => rfl) (fun _ => rfl), ?_⟩
    rintro k W2 l2 ⟨hk1, hk2, hk3⟩ f2
    have hjk : ((s.drop k).takeWhile lineB).length = 0 → j < k := by
      intro h0
      rcases Nat.lt_or_ge j k with h | h
      · exact h
      · have : k = j := by omega
        subst this
        rw [hc, List.takeWhile_cons, e1] at h0
        cases h0
    refine ⟨rfl, br_split (fun q1 => ?q1) (fun s1 => ?s1)⟩
    case' q1 =>
      have q1 : (k : Int) < s.length := q1
      have hkl : k < s.length := by omega
      have hkb : byteAt s (k : Int).toNat = (s[k]).toNat := byteAt_get (List.getElem?_eq_getElem hkl)
      refine ⟨⟨by omega, q1⟩, rfl, br_nsplit (fun q2 => ?q2) (fun s2 => ?s2)⟩
    case q2 =>
      have q2 : ¬ byteAt s (k : Int).toNat = 10 := q2
      rw [hkb] at q2
      refine ⟨rfl, _, (i64_in ((k : Int) + 1) ⟨by omega, by omega⟩).symm, k + 1, all_sl ⟨rfl, trivial⟩, rfl, ole_refl _, ⟨by omega, hkl, ?_⟩, by dsimp only; omega⟩
      rw [hk3]
      exact tw_step hkl (by simp only [lineB, Bool.not_eq_true', decide_eq_false_iff_not]; omega)
    case' s2 =>
      have h0 : ((s.drop k).takeWhile lineB).length = 0 := by
        have s2 : byteAt s (k : Int).toNat = 10 := s2
        rw [hkb] at s2
        exact tw_stop hkl (by simp only [lineB, Bool.not_eq_false', decide_eq_true_eq]; omega)
    case' s1 =>
      have h0 : ((s.drop k).takeWhile lineB).length = 0 := by
        have s1 : ¬ (k : Int) < s.length := s1
        exact tw_end (by omega)
    all_goals
      obtain ⟨_, hdw⟩ := tw_done hk3 h0
      have := hjk h0
      refine ⟨(k, _, acc), all_sl ⟨rfl, rfl, trivial⟩, rfl, ole_refl _, ⟨hk2, by dsimp only; omega, ⟨A, c0, rfl⟩, fun n hn => ?_⟩, by dsimp only; omega⟩
      dsimp only at hn ⊢
      rw [h3 _ (Nat.lt_succ_self _), hl, ← hdw, lexF_more _ n _ (by simp; omega) hn]
  case' m1 =>
    have hnr : ¬ (c.toNat = 47 ∧ ∃ d r', s.drop (j + 1) = d :: r' ∧ d.toNat = 47) := by
      have m1 : ¬ byteAt s (j : Int).toNat = 47 := m1
      rw [hbt] at m1
      rintro ⟨h, _⟩; omega
  case' m2 =>
    have hnr : ¬ (c.toNat = 47 ∧ ∃ d r', s.drop (j + 1) = d :: r' ∧ d.toNat = 47) := by
      have m2 : ¬ (j : Int) + 1 < s.length := m2
      rintro ⟨_, d, r', h, _⟩
      rw [List.drop_eq_nil_of_le (by omega)] at h; cases h
  case' m3 =>
    have hnr : ¬ (c.toNat = 47 ∧ ∃ d r', s.drop (j + 1) = d :: r' ∧ d.toNat = 47) := by
      have m3 : ¬ byteAt s ((j : Int) + 1).toNat = 47 := m3
      rw [show ((j : Int) + 1).toNat = j + 1 by omega] at m3
      rintro ⟨_, d, r', h, hd⟩
      rw [byteAt_get (drop_get h).1] at m3; omega
  case m1 | m2 | m3 =>
    refine call_v rfl (R := fun _ v _ => v = .bool (nameB c)) (fun W' _ => (congrArg (fun x => CallsX Try.prog 82 ⟨[.int .u8 x]⟩ [] W' fun v _ => v = .bool (nameB c)) hbt).mpr (refletter_x _ W')) (fun W2 v W3 _ _ hv => ?_)
    subst hv
    refine br_bool (fun hn => ?_) (fun hn => ?_)
    · refine ⟨Nat, fun k => [(5, .v (.int .i64 k))], fun _ => [], fun _ => [⟨.slice A acc.length c0, 143, 3, acc.length, (acc.map (tokC s.length)).flatten⟩], fun k _ => j ≤ k ∧ k ≤ s.length ∧ j + ((s.drop j).takeWhile nameB).length = k + ((s.drop k).takeWhile nameB).length, fun k => s.length - k, j,
        all_sl ⟨rfl, trivial⟩, rfl, ole_refl _, ⟨Nat.le_refl _, h1, rfl⟩, loopOK (fun _ => ⟨⟨trivial, rfl⟩, trivial⟩) (fun _ => rfl) (fun _ => rfl), ?_⟩
      rintro k W2 l2 ⟨hk1, hk2, hk3⟩ f2
      have hjk : ((s.drop k).takeWhile nameB).length = 0 → j < k := by
        intro h0
        rcases Nat.lt_or_ge j k with h | h
        · exact h
        · have : k = j := by omega
          subst this
          rw [hc, List.takeWhile_cons, hn] at h0
          cases h0
      refine ⟨rfl, br_split (fun q1 => ?_) (fun s1 => ?_)⟩
      rotate_left
      have h0 : ((s.drop k).takeWhile nameB).length = 0 := by
        have s1 : ¬ (k : Int) < s.length := s1
        exact tw_end (by omega)
      rotate_left
      have q1 : (k : Int) < s.length := q1
      have hkl : k < s.length := by omega
      have hkb : byteAt s (k : Int).toNat = (s[k]).toNat := byteAt_get (List.getElem?_eq_getElem hkl)
      refine ⟨⟨by omega, q1⟩, ?_⟩
      refine call_v rfl (R := fun _ v _ => v = .bool (nameB s[k])) (fun W' _ => (congrArg (fun x => CallsX Try.prog 82 ⟨[.int .u8 x]⟩ [] W' fun v _ => v = .bool (nameB s[k])) hkb).mpr (refletter_x _ W')) (fun W2 v W3 _ _ hv => ?_)
      subst hv
      refine br_bool (fun q2 => ?_) (fun s2 => ?_)
      rotate_left
      have h0 : ((s.drop k).takeWhile nameB).length = 0 := tw_stop hkl s2
      rotate_left 2
      · skip
        refine ⟨rfl, _, (i64_in ((k : Int) + 1) ⟨by omega, by omega⟩).symm, k + 1, all_sl ⟨rfl, trivial⟩, rfl, ole_refl _, ⟨by omega, hkl, ?_⟩, by dsimp only; omega⟩
        rw [hk3]
        exact tw_step hkl q2
      all_goals
        have hjk := hjk h0
        obtain ⟨htw, hdw⟩ := tw_done hk3 h0
        have ht : tokS c (s.drop (j + 1)) = some (1, (s.drop j).take (k - j), s.drop k) := by
          unfold tokS
          rw [if_pos hn, htw, hdw, hc, List.takeWhile_cons, List.dropWhile_cons, hn]; rfl
        refine ⟨⟨by omega, by omega, h2' hk2⟩, rfl, fun b W5 _ hr => ⟨0, _, tokC s.length ⟨1, (s.drop j).take (k - j), s.length - j⟩, rfl, rfl, rfl, rfl, rfl, tokC_one _ _, fun _ => ⟨_, rfl, ?_⟩, ?_, ?_, rfl, fun A' c' => ?_⟩⟩
        · have e : (s.length : Int) - ((s.length - j : Nat) : Int) = j := by omega
          unfold tokC; dsimp only; rw [e]; exact hr.o
        · show acc.length + 1 ≤ maxLen
          omega
        · show (acc.length + 1) * 32 ≤ 140737488355328; omega
        · refine ⟨(k, .slice A' (acc.length + 1) c', acc ++ [⟨1, (s.drop j).take (k - j), s.length - j⟩]), all_sl ⟨rfl, rfl, trivial⟩, rfl, ole_eq ?_, ⟨?_, ?_, ⟨A', c', by simp⟩, tok 1 _ k hnb hnr ht hjk hk2⟩, by dsimp only; omega⟩
          · show [_] = [_]
            simp
          · dsimp only; omega
          · simp; omega
    have hn' : ¬ nameB c = true := by rw [hn]; exact Bool.false_ne_true
    refine ⟨rfl, br_split (fun h34 => ?_) (fun h34 => ?_)⟩
    · have h34 : byteAt s (j : Int).toNat = 34 := h34
      rw [hbt] at h34
      have h34 : c.toNat = 34 := by omega
      refine ⟨rfl, _, w1.symm, ?_⟩
      refine ⟨Nat, fun k => [(5, .v (.int .i64 k))], fun _ => [], fun _ => [⟨.slice A acc.length c0, 143, 3, acc.length, (acc.map (tokC s.length)).flatten⟩], fun k _ => j + 1 ≤ k ∧ k ≤ s.length ∧ j + 1 + ((s.drop (j + 1)).takeWhile textB).length = k + ((s.drop k).takeWhile textB).length, fun k => s.length - k, j + 1,
        all_sl ⟨rfl, trivial⟩, rfl, ole_refl _, ⟨Nat.le_refl _, hjl, rfl⟩, loopOK (fun _ => ⟨⟨trivial, rfl⟩, trivial⟩) (fun _ => rfl) (fun _ => rfl), ?_⟩
      rintro k W2 l2 ⟨hk1, hk2, hk3⟩ f2
      refine ⟨rfl, br_split (fun q1 => ?_) (fun s1 => ?_)⟩
      rotate_left
      have h0 : ((s.drop k).takeWhile textB).length = 0 := by
        have s1 : ¬ (k : Int) < s.length := s1
        exact tw_end (by omega)
      rotate_left
      have q1 : (k : Int) < s.length := q1
      have hkl : k < s.length := by omega
      have hkb : byteAt s (k : Int).toNat = (s[k]).toNat := byteAt_get (List.getElem?_eq_getElem hkl)
      refine ⟨⟨by omega, q1⟩, rfl, ?_⟩
      apply br_split
      rotate_left
      intro s2
      have h0 : ((s.drop k).takeWhile textB).length = 0 := by
        have s2 : ¬ (32 : Int) ≤ byteAt s (k : Int).toNat := s2
        rw [hkb] at s2
        exact tw_stop hkl (by rw [Bool.eq_false_iff]; simp only [textB, ne_eq, Bool.and_eq_true, Bool.not_eq_true', decide_eq_false_iff_not, decide_eq_true_eq]; omega)
      rotate_left 2
      intro q2
      refine ⟨⟨by omega, q1⟩, rfl, ?_⟩
      apply br_split
      rotate_left
      intro s3
      have h0 : ((s.drop k).takeWhile textB).length = 0 := by
        have s3 : ¬ byteAt s (k : Int).toNat ≤ (126 : Int) := s3
        rw [hkb] at s3
        exact tw_stop hkl (by rw [Bool.eq_false_iff]; simp only [textB, ne_eq, Bool.and_eq_true, Bool.not_eq_true', decide_eq_false_iff_not, decide_eq_true_eq]; omega)
      rotate_left 3
      intro q3
      refine ⟨⟨by omega, q1⟩, rfl, ?_⟩
      apply br_nsplit
      rotate_left
      intro s4
      have h0 : ((s.drop k).takeWhile textB).length = 0 := by
        have s4 : byteAt s (k : Int).toNat = 34 := s4
        rw [hkb] at s4
        exact tw_stop hkl (by rw [Bool.eq_false_iff]; simp only [textB, ne_eq, Bool.and_eq_true, Bool.not_eq_true', decide_eq_false_iff_not, decide_eq_true_eq]; omega)
      rotate_left 4
      intro q4
      · skip
        have q2 : (32 : Int) ≤ byteAt s (k : Int).toNat := q2
        have q3 : byteAt s (k : Int).toNat ≤ (126 : Int) := q3
        have q4 : ¬ byteAt s (k : Int).toNat = 34 := q4
        rw [hkb] at q2 q3 q4
        refine ⟨rfl, _, (i64_in ((k : Int) + 1) ⟨by omega, by omega⟩).symm, k + 1, all_sl ⟨rfl, trivial⟩, rfl, ole_refl _, ⟨by omega, hkl, ?_⟩, by dsimp only; omega⟩
        rw [hk3]
        exact tw_step hkl (by simp only [textB, Bool.and_eq_true, Bool.not_eq_true', decide_eq_false_iff_not, decide_eq_true_eq]; omega)
      all_goals
        obtain ⟨htw, hdw⟩ := tw_done hk3 h0
        have hT : tokS c (s.drop (j + 1)) = match s.drop k with
          | d :: r' => if d.toNat = 34 then some (2, (s.drop (j + 1)).take (k - (j + 1)), r') else none
          | [] => none := by
          unfold tokS
          rw [if_neg hn', if_pos h34, htw, ← hdw]
          rfl
        refine ⟨rfl, br_split (fun e1 => ?_) (fun e1 => ?_)⟩
        · have e1 : (k : Int) = s.length := e1
          rw [List.drop_eq_nil_of_le (show s.length ≤ k by omega)] at hT
          have e := bad hnb hnr hT
          refine ret_plain rfl fun W' _ => ⟨.slice none 0 0, ?_, ?_⟩
          · rw [e]
          · rw [e]; exact RP.nil _ _
        have e1 : ¬ (k : Int) = s.length := e1
        have hkl' : k < s.length := by omega
        have hkb' : byteAt s (k : Int).toNat = (s[k]).toNat := byteAt_get (List.getElem?_eq_getElem hkl')
        rw [List.drop_eq_getElem_cons hkl'] at hT
        dsimp only at hT
        refine ⟨⟨by omega, show (k : Int) < s.length by omega⟩, rfl, br_nsplit (fun e2 => ?_) (fun e2 => ?_)⟩
        · have e2 : ¬ byteAt s (k : Int).toNat = 34 := e2
          rw [hkb'] at e2
          rw [if_neg (by omega)] at hT
          have e := bad hnb hnr hT
          refine ret_plain rfl fun W' _ => ⟨.slice none 0 0, ?_, ?_⟩
          · rw [e]
          · rw [e]; exact RP.nil _ _
        have e2 : byteAt s (k : Int).toNat = 34 := e2
        rw [hkb'] at e2
        rw [if_pos (by omega)] at hT
        refine ⟨rfl, _, (i64_in ((k : Int) + 1) ⟨by omega, by omega⟩).symm, rfl, _, w1.symm, rfl, _, (i64_in ((k : Int) + 1 - 1) ⟨by omega, by omega⟩).symm, ⟨by omega, by omega, by show (k : Int) + 1 - 1 ≤ s.length; omega⟩, rfl, fun b W5 _ hr => ⟨0, _, tokC s.length ⟨2, (s.drop (j + 1)).take (k - (j + 1)), s.length - j⟩, rfl, rfl, rfl, rfl, rfl, tokC_one _ _, fun _ => ⟨_, rfl, ?_⟩, ?_, ?_, rfl, fun A' c' => ?_⟩⟩
        · have e : (s.length : Int) - ((s.length - j : Nat) : Int) = j := by omega
          have e4 : (s.drop ((j : Int) + 1).toNat).take (((k : Int) + 1 - 1).toNat - ((j : Int) + 1).toNat) = (s.drop (j + 1)).take (k - (j + 1)) := by
            rw [show ((j : Int) + 1).toNat = j + 1 by omega, show ((k : Int) + 1 - 1).toNat = k by omega]
          unfold tokC; dsimp only; rw [e, ← e4]; exact hr.o
        · show acc.length + 1 ≤ maxLen
          omega
        · show (acc.length + 1) * 32 ≤ 140737488355328; omega
        · refine ⟨(k + 1, .slice A' (acc.length + 1) c', acc ++ [⟨2, (s.drop (j + 1)).take (k - (j + 1)), s.length - j⟩]), all_sl ⟨rfl, rfl, trivial⟩, rfl, ole_eq ?_, ⟨?_, ?_, ⟨A', c', by simp⟩, tok 2 _ (k + 1) hnb hnr hT (by omega) hkl'⟩, by dsimp only; omega⟩
          · show [_] = [_]
            simp
          · dsimp only; omega
          · simp; omega
    have h34 : ¬ byteAt s (j : Int).toNat = 34 := h34
    rw [hbt] at h34
    have h34 : ¬ c.toNat = 34 := by omega
    refine call_v rfl (fun W' _ => refsign_x s hs j c (s.drop (j + 1)) hc W') (fun W2 v W3 _ _ hv => ?_)
    have hsig := signN_cases c (s.drop (j + 1))
    obtain ⟨m, hm, rfl⟩ : ∃ m, signN c (s.drop (j + 1)) = m ∧ v = .int .i64 m := ⟨_, rfl, hv⟩
    rw [hm] at hsig
    refine ⟨rfl, br_split (fun e0 => ?_) (fun e0 => ?_)⟩
    · have e0 : m = 0 := e0
      have ht : tokS c (s.drop (j + 1)) = none := by
        rcases hsig with h | ⟨hp, h | h⟩
        · omega
        · omega
        · rw [tokS_sign hn' h34 hp, if_neg h.2]
      have e := bad hnb hnr ht
      refine ret_plain rfl fun W' _ => ⟨.slice none 0 0, ?_, ?_⟩
      · rw [e]
      · rw [e]; exact RP.nil _ _
    have e0 : ¬ m = 0 := e0
    obtain ⟨n, hn1, rfl, ht⟩ : ∃ n : Nat, (1 ≤ n ∧ j + n ≤ s.length) ∧ m = n ∧ tokS c (s.drop (j + 1)) = some (3, (s.drop j).take n, s.drop (j + n)) := by
      rcases hsig with h | ⟨hp, h | h⟩
      · obtain ⟨r', hr', rfl⟩ := signN_two (hm.trans h)
        have := congrArg List.length hr'
        simp at this
        refine ⟨2, ⟨by omega, by omega⟩, h, ?_⟩
        rw [hc, hr', (drop_get hr').2.1]; rfl
      · refine ⟨1, ⟨by omega, by omega⟩, h.1, ?_⟩
        rw [tokS_sign hn' h34 hp, if_pos h.2, hc]; rfl
      · exact absurd h.1 e0
    refine ⟨rfl, _, (i64_in ((j : Int) + n) ⟨by omega, by omega⟩).symm, ⟨by omega, by omega, by show (j : Int) + n ≤ s.length; omega⟩, rfl, fun b W5 _ hr => ⟨0, _, tokC s.length ⟨3, (s.drop j).take n, s.length - j⟩, rfl, rfl, rfl, rfl, rfl, tokC_one _ _, fun _ => ⟨_, rfl, ?_⟩, ?_, ?_, rfl, fun A' c' => ?_⟩⟩
    · have e : (s.length : Int) - ((s.length - j : Nat) : Int) = j := by omega
      have e4 : (s.drop j).take (((j : Int) + n).toNat - j) = (s.drop j).take n := by rw [show ((j : Int) + n).toNat - j = n by omega]
      unfold tokC; dsimp only; rw [e, ← e4]; exact hr.o
    · show acc.length + 1 ≤ maxLen
      omega
    · show (acc.length + 1) * 32 ≤ 140737488355328; omega
    · refine ⟨(j + n, .slice A' (acc.length + 1) c', acc ++ [⟨3, (s.drop j).take n, s.length - j⟩]), all_sl ⟨rfl, rfl, trivial⟩, rfl, ole_eq ?_, ⟨?_, ?_, ⟨A', c', by simp⟩, tok 3 _ (j + n) hnb hnr ht (by omega) hn1.2⟩, by dsimp only; omega⟩
      · show [_] = [_]
        simp
      · dsimp only; omega
      · simp; omega
end Go.Proofs.Ytcgbcbdgjhnlaaa
