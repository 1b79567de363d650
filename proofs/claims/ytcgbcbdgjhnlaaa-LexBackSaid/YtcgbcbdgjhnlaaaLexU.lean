/- The program's Lex, walked: it answers the document's tokens. -/
import Derived.Test.YtcgbcbdgjhnlaaaLexV
namespace Go.Proofs.Ytcgbcbdgjhnlaaa
open Go.RowKit

/-- The tokens; what is wrong: 0, 4, 5. -/
def lexA (s : List UInt8) : List Tok × Int := if 16384 < s.length then ([], 5) else match lexS s with | some l => (l, 0) | none => ([], 4)
def appT (a : List Tok) : Option (List Tok) → Option (List Tok)
  | some l => some (a ++ l)
  | none => none
theorem tokC_one (n : Nat) (x : Tok) : ∀ u ∈ tokC n x, u.oneCell' = true := by
  intro u hu
  simp only [tokC, List.mem_cons, List.not_mem_nil, or_false] at hu
  rcases hu with rfl | rfl | rfl <;> rfl
theorem lex_x (s : List UInt8) (W : PW) : CallsX Try.prog 22 ⟨[strV s]⟩ [] W fun v W' => ∃ u, v = .tuple ⟨[u, .int .i64 (lexA s).2]⟩ ∧ RP (tokC s.length) W' u (lexA s).1 := by
  refine pureNX hmix Try.func22 r22 (by kernel_rfl) [nilO 29 3] rfl [strV s] rfl ?_
  refine ⟨rfl, br_split (fun h => ?_) (fun h => ?_)⟩
  · have h : (16384 : Int) < s.length := h
    refine ret_plain rfl fun W' _ => ⟨.slice none 0 0, ?_, ?_⟩
    · rw [lexA, if_pos (by omega)]
    · rw [lexA, if_pos (by omega)]; exact RP.nil _ _
  have h : ¬ (16384 : Int) < s.length := h
  have hs : s.length ≤ 16384 := by omega
  have hA : lexA s = match lexS s with | some l => (l, 0) | none => ([], 4) := by rw [lexA, if_neg (by omega)]
  refine ⟨Nat × Value × List Tok, fun t => [(5, .v t.2.1)], fun t => [[.v (strV s), .v (.int .i64 t.1)]], fun t => [⟨t.2.1, 29, 3, t.2.2.length, (t.2.2.map (tokC s.length)).flatten⟩],
    fun t _ => t.1 ≤ s.length ∧ t.2.2.length ≤ t.1 ∧ (∃ A c, t.2.1 = .slice A t.2.2.length c) ∧ ∀ n, (s.drop t.1).length < n → lexS s = appT t.2.2 (lexF n (s.drop t.1)), fun t => s.length - t.1, (0, .slice none 0 0, []),
    all_sl ⟨rfl, trivial⟩, rfl, ole_refl _, ⟨Nat.zero_le _, Nat.le_refl _, ⟨none, 0, rfl⟩, fun n hn => ?_⟩, loopOK (fun _ => ⟨⟨trivial, rfl⟩, trivial⟩) (fun _ => rfl) (fun _ => rfl), ?_⟩
  · show lexS s = appT [] (lexF n s)
    rw [lexF_more n (s.length + 1) s hn (Nat.lt_succ_self _)]
    unfold lexS
    cases lexF (s.length + 1) s <;> rfl
  rintro ⟨j, u, acc⟩ W1 l1 ⟨h1, h2, ⟨A, c0, hu⟩, h3⟩ f
  dsimp only at h1 h2 hu h3
  subst hu
  refine call_m1 rfl rfl rfl rfl k80 (fun g' W' _ how => (skip_x s hs g' W' j h1 how).mono fun v W2 ⟨k, hk, hdk, hw⟩ _ => ⟨_, hw, ?_⟩)
  have h3' : lexS s = appT acc (lexF ((s.drop j).length + 1) (s.drop j)) := h3 _ (Nat.lt_succ_self _)
  have hjk : j ≤ k := by
    have := congrArg List.length hdk
    have h5 := skipM_len false (s.drop j)
    rw [← this] at h5
    simp only [List.length_drop] at h5; omega
  simp only [lexF] at h3'
  rw [← hdk] at h3'
  refine ⟨rfl, br_split (fun hq => ?_) (fun hq => ?_)⟩
  · have hq : (k : Int) = s.length := hq
    rw [List.drop_eq_nil_of_le (by omega)] at h3'
    have e : lexA s = (acc, 0) := by rw [hA, h3']; simp [appT]
    refine RetVC.freeze (fun _ hb => hb) (i := 0) rfl fun W3 _ hf => ret_plain rfl fun W4 l4 => ?_
    rw [e]
    exact ⟨_, rfl, hf.mono l4⟩
  have hq : ¬ (k : Int) = s.length := hq
  have hkl : k < s.length := by omega
  have hc : s.drop k = s[k] :: s.drop (k + 1) := List.drop_eq_getElem_cons hkl
  generalize s[k] = c at hc
  generalize s.drop (k + 1) = r at hc
  rw [hc] at h3'
  dsimp only at h3'
  refine call_m1 rfl rfl rfl rfl k81 (fun g' W' _ how => (token_x s hs g' W' k c r hc how).mono fun v W3 ⟨m, hm, hw, hv⟩ _ => ⟨_, hw, ?_⟩)
  have hrl : r.length + 1 = s.length - k := by have := congrArg List.length hc; simpa using this.symm
  cases ht : tokS c r with
  | none =>
    rw [ht] at hv h3'
    obtain ⟨kk, tt, rfl⟩ := hv
    have e : lexA s = ([], 4) := by rw [hA, h3']; rfl
    refine ⟨_, rfl, _, rfl, ?_⟩
    refine ret_plain rfl fun W' _ => ⟨.slice none 0 0, ?_, ?_⟩
    · rw [e]
    · rw [e]; exact RP.nil _ _
  | some p =>
    obtain ⟨k', t, rest⟩ := p
    rw [ht] at hv h3'
    obtain ⟨rfl, hrest⟩ := hv
    have hlen := tokS_len ht
    have hml : k < m := by
      have := congrArg List.length hrest
      simp only [List.length_drop] at this; omega
    refine ⟨_, rfl, _, rfl, rfl, fun b W4 _ hr => ⟨0, _, tokC s.length ⟨k', t, (c :: r).length⟩, rfl, rfl, rfl, rfl, rfl, tokC_one _ _, fun _ => ⟨_, rfl, ?_⟩, ?_, ?_, rfl, fun A' c' => ?_⟩⟩
    · have e : (s.length : Int) - (c :: r).length = k := by simp only [List.length_cons]; omega
      unfold tokC; dsimp only; rw [e]; exact hr.o
    · show acc.length + 1 ≤ maxLen
      have : (20000 : Nat) ≤ maxLen := by decide
      omega
    · show (acc.length + 1) * 32 ≤ 140737488355328; omega
    · refine ⟨(m, .slice A' (acc.length + 1) c', acc ++ [⟨k', t, (c :: r).length⟩]), all_sl ⟨rfl, trivial⟩, rfl, ole_eq ?_, ⟨hm, ?_, ⟨A', c', by simp⟩, fun n hn => ?_⟩, by dsimp only; omega⟩
      · show [_] = [_]
        simp
      · simp; omega
      · rw [hrest] at hn ⊢
        rw [h3', lexF_more n ((s.drop j).length) rest hn (by simp only [List.length_drop]; omega)]
        dsimp only
        cases lexF (s.drop j).length rest <;> simp [appT]
end Go.Proofs.Ytcgbcbdgjhnlaaa
