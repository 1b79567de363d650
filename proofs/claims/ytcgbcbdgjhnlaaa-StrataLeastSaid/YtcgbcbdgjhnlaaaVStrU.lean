/- Layer 18 (strata), plain: least numbers of a graph whose edges ask for more; rounds that raise one after the other, and all at once. No program here. -/
import Derived.Test.YtcgbcbdgjhnlaaaVStrP
namespace Go.Proofs.Ytcgbcbdgjhnlaaa

/-- An edge between places: from, to, whether it asks for one more. -/
structure FE where
  f : Nat
  t : Nat
  ab : Bool
def FE.w (e : FE) : Nat := if e.ab = true then 1 else 0
/-- What all edges of a place ask for. -/
def askF (x : Nat → Nat) (k : Nat) : List FE → Nat
  | [] => 0
  | e :: r => if e.f = k then max (x e.t + e.w) (askF x k r) else askF x k r
theorem askF_ge {x : Nat → Nat} {k : Nat} : ∀ {E : List FE} {e : FE}, e ∈ E → e.f = k → x e.t + e.w ≤ askF x k E
  | a :: r, e, he, hk => by
    rcases List.mem_cons.1 he with rfl | he
    · simp only [askF, if_pos hk]; exact Nat.le_max_left ..
    · have := askF_ge (x := x) he hk
      simp only [askF]
      split
      · exact Nat.le_trans this (Nat.le_max_right ..)
      · exact this
theorem askF_le {x : Nat → Nat} {k b : Nat} : ∀ {E : List FE}, (∀ e ∈ E, e.f = k → x e.t + e.w ≤ b) → askF x k E ≤ b
  | [], _ => Nat.zero_le _
  | a :: r, h => by
    have ih := askF_le (E := r) fun e he => h e (List.mem_cons_of_mem _ he)
    simp only [askF]
    split
    · rename_i hk
      exact Nat.max_le.2 ⟨h a (List.mem_cons_self ..) hk, ih⟩
    · exact ih
theorem askF_mono {x y : Nat → Nat} (h : ∀ k, x k ≤ y k) (k : Nat) (E : List FE) : askF x k E ≤ askF y k E :=
  askF_le fun e he hk => Nat.le_trans (Nat.add_le_add_right (h e.t) _) (askF_ge he hk)
theorem askF_snoc (x : Nat → Nat) (k : Nat) (e : FE) : ∀ E : List FE, askF x k (E ++ [e]) = if e.f = k then max (askF x k E) (x e.t + e.w) else askF x k E
  | [] => by
    show (if e.f = k then max (x e.t + e.w) 0 else 0) = _
    split
    · show max (x e.t + e.w) 0 = max 0 (x e.t + e.w); rw [Nat.max_comm]
    · rfl
  | a :: r => by
    have ih := askF_snoc x k e r
    simp only [List.cons_append, askF, ih]
    split
    · split
      · rw [Nat.max_assoc]
      · rfl
    · rfl

/-- All at once, so many times. -/
def lev (E : List FE) : Nat → Nat → Nat
  | 0, _ => 0
  | s + 1, k => askF (lev E s) k E
def ClosedF (E : List FE) (y : Nat → Nat) : Prop := ∀ e ∈ E, y e.t + e.w ≤ y e.f
theorem lev_step (E : List FE) : ∀ (s k : Nat), lev E s k ≤ lev E (s + 1) k
  | 0, _ => Nat.zero_le _
  | s + 1, k => askF_mono (lev_step E s) k E
theorem lev_le (E : List FE) {s t : Nat} (h : s ≤ t) (k : Nat) : lev E s k ≤ lev E t k := by
  induction t with
  | zero => obtain rfl : s = 0 := by omega
            exact Nat.le_refl _
  | succ t ih =>
    rcases Nat.lt_or_ge t s with h1 | h1
    · obtain rfl : s = t + 1 := by omega
      exact Nat.le_refl _
    · exact Nat.le_trans (ih h1) (lev_step E t k)
theorem lev_closed {E : List FE} {y : Nat → Nat} (h : ClosedF E y) : ∀ (s k : Nat), lev E s k ≤ y k
  | 0, _ => Nat.zero_le _
  | s + 1, k => askF_le fun e he hk => by
    have := lev_closed h s e.t
    have := h e he
    rw [hk] at this
    omega
theorem lev_s (E : List FE) : ∀ (s k : Nat), lev E s k ≤ s
  | 0, _ => Nat.le_refl _
  | s + 1, k => askF_le fun e _ _ => by
    have := lev_s E s e.t
    have : e.w ≤ 1 := by unfold FE.w; split <;> omega
    omega
theorem lev_fix {E : List FE} {s : Nat} (h : ∀ k, lev E (s + 1) k = lev E s k) : ∀ t, s ≤ t → ∀ k, lev E t k = lev E s k := by
  intro t ht
  induction t with
  | zero => intro k; obtain rfl : s = 0 := by omega
            rfl
  | succ t ih =>
    intro k
    rcases Nat.lt_or_ge t s with h1 | h1
    · obtain rfl : s = t + 1 := by omega
      rfl
    · rw [← h k]
      exact Nat.le_antisymm (askF_mono (fun k => Nat.le_of_eq (ih h1 k)) k E) (askF_mono (fun k => Nat.le_of_eq (ih h1 k).symm) k E)
/-- The least numbers. -/
structure Least (E : List FE) (m : Nat → Nat) : Prop where
  up : ∀ s k, lev E s k ≤ m k
  at_ : ∀ k, ∃ s, m k ≤ lev E s k
theorem Least.closed {E : List FE} {m : Nat → Nat} (h : Least E m) : ClosedF E m := fun e he => by
  obtain ⟨s, hs⟩ := h.at_ e.t
  have h1 := askF_ge (x := lev E s) he rfl
  have h2 : askF (lev E s) e.f E ≤ m e.f := h.up (s + 1) e.f
  omega
theorem Least.fix {E : List FE} {m : Nat → Nat} (h : Least E m) (k : Nat) : askF m k E = m k := by
  refine Nat.le_antisymm (askF_le fun e he hk => hk ▸ h.closed e he) ?_
  obtain ⟨s, hs⟩ := h.at_ k
  cases s with
  | zero => exact Nat.le_trans hs (Nat.zero_le _)
  | succ s => exact Nat.le_trans hs (askF_mono (h.up s) k E)
theorem Least.min {E : List FE} {m y : Nat → Nat} (h : Least E m) (hy : ClosedF E y) (k : Nat) : m k ≤ y k := by
  obtain ⟨s, hs⟩ := h.at_ k
  exact Nat.le_trans hs (lev_closed hy s k)
theorem Least.one {E : List FE} {m y : Nat → Nat} (h : Least E m) (hy : Least E y) (k : Nat) : m k = y k := Nat.le_antisymm (h.min hy.closed k) (hy.min h.closed k)
/-- Places from n on have no edges. -/
def Within (E : List FE) (n : Nat) : Prop := ∀ e ∈ E, e.f < n ∧ e.t < n
theorem Least.out {E : List FE} {m : Nat → Nat} {n k : Nat} (h : Least E m) (hw : Within E n) (hk : n ≤ k) : m k = 0 := by
  rw [← h.fix k]
  exact Nat.le_zero.1 (askF_le fun e he hf => by have := (hw e he).1; omega)

theorem count_lt {p q : Nat → Bool} : ∀ {l : List Nat}, (∀ k ∈ l, p k = true → q k = true) → l.countP p = l.countP q → ∀ k ∈ l, q k = true → p k = true
  | a :: r, h, hc, k, hk, hq => by
    have ih := count_lt (l := r) (p := p) (q := q) fun k hk => h k (List.mem_cons_of_mem _ hk)
    have hle : r.countP p ≤ r.countP q := List.countP_mono_left fun k hk => h k (List.mem_cons_of_mem _ hk)
    have ha := h a (List.mem_cons_self ..)
    rw [List.countP_cons, List.countP_cons] at hc
    rcases List.mem_cons.1 hk with rfl | hk
    · cases hp : p k with
      | true => rfl
      | false =>
        rw [hp, hq] at hc
        simp only [Bool.false_eq_true, if_false, if_true] at hc
        omega
    · refine ih ?_ k hk hq
      cases hp : p a <;> cases hqa : q a <;> rw [hp, hqa] at hc <;> simp only [Bool.false_eq_true, if_false, if_true] at hc
      · exact hc
      · omega
      · rw [hp] at ha; rw [ha rfl] at hqa; cases hqa
      · omega
def lateB (E : List FE) (m : Nat → Nat) (s k : Nat) : Bool := decide (lev E s k < m k)
theorem late_step {E : List FE} {m : Nat → Nat} {n : Nat} (h : Least E m) (hw : Within E n) (s : Nat) : (List.range n).countP (lateB E m (s + 1)) < (List.range n).countP (lateB E m s) ∨ (List.range n).countP (lateB E m s) = 0 := by
  have hsub : ∀ k ∈ List.range n, lateB E m (s + 1) k = true → lateB E m s k = true := fun k _ hk => by
    unfold lateB at hk ⊢
    rw [decide_eq_true_eq] at hk ⊢
    have := lev_step E s k
    omega
  rcases Nat.lt_or_ge ((List.range n).countP (lateB E m (s + 1))) ((List.range n).countP (lateB E m s)) with h1 | h1
  · exact .inl h1
  have heq := Nat.le_antisymm (List.countP_mono_left hsub) h1
  have hall := count_lt hsub heq
  refine .inr ?_
  rw [List.countP_eq_zero]
  intro k hk hlk
  have late : ∀ k, k < n → lev E s k < m k → lev E (s + 1) k < m k := fun k hk hl => by
    have := hall k (List.mem_range.2 hk) (by unfold lateB; rw [decide_eq_true_eq]; exact hl)
    unfold lateB at this
    rwa [decide_eq_true_eq] at this
  have hcl : ClosedF E fun k => if k < n ∧ lev E s k < m k then m k - 1 else m k := by
    intro e he
    obtain ⟨hf, ht⟩ := hw e he
    have h0 := h.closed e he
    have h2 := askF_ge (x := lev E s) he rfl
    have h3 : lev E (s + 1) e.f = askF (lev E s) e.f E := rfl
    dsimp only
    by_cases c1 : lev E s e.f < m e.f
    · have h4 := late e.f hf c1
      rw [if_pos (c := e.f < n ∧ lev E s e.f < m e.f) ⟨hf, c1⟩]
      by_cases c2 : lev E s e.t < m e.t
      · rw [if_pos ⟨ht, c2⟩]; omega
      · rw [if_neg fun h => c2 h.2]; omega
    · rw [if_neg (c := e.f < n ∧ lev E s e.f < m e.f) fun h => c1 h.2]
      split <;> omega
  have h5 := h.min hcl k
  unfold lateB at hlk
  rw [decide_eq_true_eq] at hlk
  rw [if_pos ⟨List.mem_range.1 hk, hlk⟩] at h5
  omega
theorem late_none {E : List FE} {m : Nat → Nat} {n : Nat} (h : Least E m) (hw : Within E n) (hn : 0 < n) : ∀ s, (List.range n).countP (lateB E m s) ≤ n - 1 - s
  | 0 => by
    rcases Nat.lt_or_ge ((List.range n).countP (lateB E m 0)) n with h1 | h1
    · omega
    exfalso
    have hle := List.countP_le_length (p := lateB E m 0) (l := List.range n)
    rw [List.length_range] at hle
    have hall : ∀ k < n, 0 < m k := fun k hk => by
      have he : (List.range n).countP (lateB E m 0) = (List.range n).length := by rw [List.length_range]; omega
      have := List.countP_eq_length.1 he k (List.mem_range.2 hk)
      unfold lateB at this
      rw [decide_eq_true_eq] at this
      exact this
    have hcl : ClosedF E fun k => m k - 1 := fun e he => by
      have h0 := h.closed e he
      have := hall e.t (hw e he).2
      dsimp only
      omega
    have := h.min hcl 0
    have := hall 0 hn
    omega
  | s + 1 => by
    have ih := late_none h hw hn s
    rcases late_step h hw s with h1 | h1
    · omega
    · have : (List.range n).countP (lateB E m (s + 1)) ≤ (List.range n).countP (lateB E m s) := List.countP_mono_left fun k _ hk => by
        unfold lateB at hk ⊢
        rw [decide_eq_true_eq] at hk ⊢
        have := lev_step E s k
        omega
      omega
/-- So many steps as there are places, but for one, are enough; and no number is as great as there are places. -/
theorem Least.soon {E : List FE} {m : Nat → Nat} {n : Nat} (h : Least E m) (hw : Within E n) {s : Nat} (hs : n ≤ s + 1) (k : Nat) : lev E s k = m k := by
  refine Nat.le_antisymm (h.up s k) ?_
  rcases Nat.lt_or_ge k n with hk | hk
  · have h1 := late_none h hw (by omega) s
    have h2 : (List.range n).countP (lateB E m s) = 0 := by omega
    rw [List.countP_eq_zero] at h2
    have h3 := h2 k (List.mem_range.2 hk)
    unfold lateB at h3
    rw [decide_eq_true_eq] at h3
    omega
  · rw [h.out hw hk]; exact Nat.zero_le _
theorem Least.small {E : List FE} {m : Nat → Nat} {n k : Nat} (h : Least E m) (hw : Within E n) (hk : k < n) : m k < n := by
  have h1 := h.soon hw (s := n - 1) (by omega) k
  have h2 := lev_s E (n - 1) k
  omega
theorem Least.of_fix {E : List FE} {s : Nat} (h : ∀ k, lev E (s + 1) k = lev E s k) : Least E (lev E s) :=
  ⟨fun t k => by
    rcases Nat.le_total t s with h1 | h1
    · exact lev_le E h1 k
    · exact Nat.le_of_eq (lev_fix h t h1 k), fun k => ⟨s, Nat.le_refl _⟩⟩

def riseF (x : Nat → Nat) (e : FE) : Nat → Nat := if x e.t + e.w ≤ x e.f then x else fun k => if k = e.f then x e.t + e.w else x k
theorem riseF_ge (x : Nat → Nat) (e : FE) (k : Nat) : x k ≤ riseF x e k := by
  unfold riseF
  split
  · exact Nat.le_refl _
  · dsimp only
    split
    · rename_i h1 h2; subst h2; omega
    · exact Nat.le_refl _
theorem riseF_at (x : Nat → Nat) (e : FE) : x e.t + e.w ≤ riseF x e e.f := by
  unfold riseF
  split
  · assumption
  · dsimp only; rw [if_pos rfl]; exact Nat.le_refl _
theorem riseF_le {E : List FE} {x m : Nat → Nat} {e : FE} (he : e ∈ E) (hm : ClosedF E m) (h : ∀ k, x k ≤ m k) (k : Nat) : riseF x e k ≤ m k := by
  unfold riseF
  split
  · exact h k
  · dsimp only
    split
    · rename_i h2; subst h2; have := hm e he; have := h e.t; omega
    · exact h k
theorem riseF_lev {E : List FE} {x : Nat → Nat} {e : FE} {N : Nat} (he : e ∈ E) (h : ∀ k, x k ≤ lev E N k) (k : Nat) : riseF x e k ≤ lev E (N + 1) k := by
  have h1 := lev_step E N
  unfold riseF
  split
  · exact Nat.le_trans (h k) (h1 k)
  · dsimp only
    split
    · rename_i h2
      subst h2
      exact Nat.le_trans (Nat.add_le_add_right (h e.t) _) (askF_ge (x := lev E N) he rfl)
    · exact Nat.le_trans (h k) (h1 k)
def roundF (x : Nat → Nat) : List FE → Nat → Nat
  | [] => x
  | e :: r => roundF (riseF x e) r
theorem roundF_ge : ∀ (l : List FE) (x : Nat → Nat) (k : Nat), x k ≤ roundF x l k
  | [], _, _ => Nat.le_refl _
  | e :: r, x, k => Nat.le_trans (riseF_ge x e k) (roundF_ge r _ k)
theorem roundF_at : ∀ (l : List FE) (x : Nat → Nat) (e : FE), e ∈ l → x e.t + e.w ≤ roundF x l e.f
  | a :: r, x, e, he => by
    rcases List.mem_cons.1 he with rfl | he
    · exact Nat.le_trans (riseF_at x e) (roundF_ge r _ _)
    · exact Nat.le_trans (Nat.add_le_add_right (riseF_ge x a e.t) _) (roundF_at r _ e he)
theorem roundF_le {E : List FE} {m : Nat → Nat} (hm : ClosedF E m) : ∀ (l : List FE) (x : Nat → Nat), (∀ e ∈ l, e ∈ E) → (∀ k, x k ≤ m k) → ∀ k, roundF x l k ≤ m k
  | [], _, _, h, k => h k
  | e :: r, _, hl, h, k => roundF_le hm r _ (fun e he => hl e (List.mem_cons_of_mem _ he)) (riseF_le (hl e (List.mem_cons_self ..)) hm h) k
theorem roundF_lev {E : List FE} : ∀ (l : List FE) (x : Nat → Nat) (N : Nat), (∀ e ∈ l, e ∈ E) → (∀ k, x k ≤ lev E N k) → ∃ N', ∀ k, roundF x l k ≤ lev E N' k
  | [], _, N, _, h => ⟨N, h⟩
  | e :: r, _, N, hl, h => roundF_lev r _ (N + 1) (fun e he => hl e (List.mem_cons_of_mem _ he)) (riseF_lev (hl e (List.mem_cons_self ..)) h)
def quietF (x : Nat → Nat) (l : List FE) : Prop := ∀ e ∈ l, x e.t + e.w ≤ x e.f
/-- From a state that is no less than s steps at once: one round is no less than one step more. -/
theorem roundF_next {E : List FE} {x : Nat → Nat} {s : Nat} (h : ∀ k, lev E s k ≤ x k) (k : Nat) : lev E (s + 1) k ≤ roundF x E k :=
  askF_le fun e he hk => Nat.le_trans (Nat.add_le_add_right (h e.t) _) (hk ▸ roundF_at E x e he)
end Go.Proofs.Ytcgbcbdgjhnlaaa

