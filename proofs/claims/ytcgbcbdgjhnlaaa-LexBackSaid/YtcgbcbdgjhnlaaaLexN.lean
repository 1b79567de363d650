/- Joined tokens: plain laws. -/
import Derived.Test.YtcgbcbdgjhnlaaaLexL
namespace Go.Proofs.Ytcgbcbdgjhnlaaa

theorem joinT_snoc (x : Tok) : ∀ l : List Tok, joinT (l ++ [x]) = match l with | [] => x.txt | y :: r => joinT (y :: r) ++ 32 :: x.txt
  | [] => rfl
  | [y] => rfl
  | y :: z :: l => by
    have := joinT_snoc x (z :: l)
    simp only [List.cons_append] at this ⊢
    simp only [joinT, this]
    simp
theorem tokS_tlen {c : UInt8} {r rest t : List UInt8} {k : Nat} (h : tokS c r = some (k, t, rest)) : t.length ≤ (c :: r).length := by
  have tw : ∀ (p : UInt8 → Bool) (l : List UInt8), (l.takeWhile p).length ≤ l.length := by
    intro p l
    induction l with
    | nil => simp
    | cons a l ih => simp only [List.takeWhile_cons]; split <;> simp only [List.length_cons, List.length_nil] <;> omega
  unfold tokS at h
  split at h
  · simp only [Option.some.injEq, Prod.mk.injEq] at h
    rw [← h.2.1]; have := tw nameB r; simp only [List.length_cons]; omega
  · split at h
    · split at h
      · split at h
        · simp only [Option.some.injEq, Prod.mk.injEq] at h
          rw [← h.2.1]; have := tw textB r; simp only [List.length_cons]; omega
        · cases h
      · cases h
    · split at h
      · rename_i r' hr
        simp only [Option.some.injEq, Prod.mk.injEq] at h
        rw [← h.2.1]
        split at hr
        · split at hr
          · simp only [List.length_cons, List.length_nil]; omega
          · cases hr
        · cases hr
      · split at h
        · simp only [Option.some.injEq, Prod.mk.injEq] at h
          rw [← h.2.1]; simp
        · cases h
theorem lexF_tlen : ∀ (n : Nat) (s : List UInt8) (l : List Tok), lexF n s = some l → ∀ x ∈ l, x.t.length ≤ s.length
  | 0, s, l, h => by simp [lexF] at h
  | n + 1, s, l, h => by
    simp only [lexF] at h
    have h0 := skipM_len false s
    split at h
    · simp only [Option.some.injEq] at h; subst h; intro x hx; cases hx
    · rename_i c r hc
      rw [hc] at h0
      split at h
      · cases h
      · rename_i k t rest ht
        split at h
        · cases h
        · rename_i l' hl'
          simp only [Option.some.injEq] at h; subst h
          intro x hx
          rcases List.mem_cons.1 hx with rfl | hx
          · have := tokS_tlen ht; dsimp only at *; omega
          · have h1 := lexF_tlen n rest l' hl' x hx
            have h2 := tokS_len ht
            simp only [List.length_cons] at h0; omega
theorem txt_len (x : Tok) : x.txt.length ≤ x.t.length + 2 := by
  unfold Tok.txt; split <;> simp
theorem joinT_len {m : Nat} : ∀ l : List Tok, (∀ x ∈ l, x.t.length ≤ m) → (joinT l).length ≤ l.length * (m + 3)
  | [], _ => by simp [joinT]
  | [x], h => by
    have h1 := txt_len x
    have h2 := h x (List.mem_cons_self ..)
    simp only [joinT, List.length_cons, List.length_nil]; omega
  | x :: y :: l, h => by
    have h1 := txt_len x
    have h2 := h x (List.mem_cons_self ..)
    have h3 := joinT_len (y :: l) fun x hx => h x (List.mem_cons_of_mem _ hx)
    simp only [joinT, List.length_append, List.length_cons] at h3 ⊢
    have : (l.length + 1 + 1) * (m + 3) = (l.length + 1) * (m + 3) + (m + 3) := by rw [Nat.add_mul (l.length + 1)]; omega
    omega
/-- Blanks, remarks, tokens, place by place. -/
theorem lexF_blank {c : UInt8} (h : blankB c = true) (n : Nat) (r : List UInt8) : lexF n (c :: r) = lexF n r := by
  cases n with
  | zero => rfl
  | succ n => simp only [lexF, skip_blank h]
theorem lexF_nil (n : Nat) (h : 0 < n) : lexF n [] = some [] := by
  cases n with
  | zero => omega
  | succ n => rfl
theorem lexF_tok {c : UInt8} {r : List UInt8} (h1 : blankB c = false) (h2 : ¬ (c.toNat = 47 ∧ ∃ d r', r = d :: r' ∧ d.toNat = 47)) (n : Nat) : lexF (n + 1) (c :: r) = match tokS c r with
    | none => none
    | some (k, t, rest) => match lexF n rest with
      | none => none
      | some l => some (⟨k, t, (c :: r).length⟩ :: l) := by
  have hs : skipM false (c :: r) = c :: r := by
    cases r with
    | nil => simp [skipM, h1]
    | cons d r =>
      have : ¬ (c.toNat = 47 ∧ d.toNat = 47) := fun h => h2 ⟨h.1, d, r, rfl, h.2⟩
      simp [skipM, h1, this]
  rw [lexF, hs]
  rfl
end Go.Proofs.Ytcgbcbdgjhnlaaa
