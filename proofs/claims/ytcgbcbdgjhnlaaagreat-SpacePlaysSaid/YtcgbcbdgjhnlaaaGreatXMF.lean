/- Layer 18 (strata), plain: least numbers of a graph whose edges ask for more; rounds that raise one after the other, and all at once. No program here. -/
import Derived.Test.YtcgbcbdgjhnlaaaGreatXMA
import Derived.Test.YtcgbcbdgjhnlaaaGreatXPH
import Derived.Test.YtcgbcbdgjhnlaaaGreatXMD
import Derived.Test.YtcgbcbdgjhnlaaaGreatXCodeZ
namespace Go.Proofs.YtcgbcbdgjhnlaaaGreat

/-- An edge between places: from, to, whether it asks for one more. -/
structure FE where
  f : Nat
  t : Nat
  ab : Bool
def FE.w (e : FE) : Nat := if e.ab = true then 1 else 0
/-- What all edges of a place ask for. -/
def askF (x : Nat → Nat) (k : Nat) : List FE → Nat
  | [] => 0
  | e :: r => if e.f = k then max (x e.t + e.w) (askF x k r) else askF x k r
theorem askF_ge {x : Nat → Nat} {k : Nat} : ∀ {E : List FE} {e : FE}, e ∈ E → e.f = k → x e.t + e.w ≤ askF x k E
  | a :: r, e, he, hk => by
    rcases List.mem_cons.1 he with rfl | he
    · simp only [askF, if_pos hk]; exact Nat.le_max_left ..
    · have := askF_ge (x := x) he hk
      simp only [askF]
      split
      · exact Nat.le_trans this (Nat.le_max_right ..)
      · exact this
theorem askF_le {x : Nat → Nat} {k b : Nat} : ∀ {E : List FE}, (∀ e ∈ E, e.f = k → x e.t + e.w ≤ b) → askF x k E ≤ b
  | [], _ => Nat.zero_le _
  | a :: r, h => by
    have ih := askF_le (E := r) fun e he => h e (List.mem_cons_of_mem _ he)
    simp only [askF]
    split
    · rename_i hk
      exact Nat.max_le.2 ⟨h a (List.mem_cons_self ..) hk, ih⟩
    · exact ih
theorem askF_mono {x y : Nat → Nat} (h : ∀ k, x k ≤ y k) (k : Nat) (E : List FE) : askF x k E ≤ askF y k E :=
  askF_le fun e he hk => Nat.le_trans (Nat.add_le_add_right (h e.t) _) (askF_ge he hk)
theorem askF_snoc (x : Nat → Nat) (k : Nat) (e : FE) : ∀ E : List FE, askF x k (E ++ [e]) = if e.f = k then max (askF x k E) (x e.t + e.w) else askF x k E
  | [] => by
    show (if e.f = k then max (x e.t + e.w) 0 else 0) = _
    split
    · show max (x e.t + e.w) 0 = max 0 (x e.t + e.w); rw [Nat.max_comm]
    · rfl
  | a :: r => by
    have ih := askF_snoc x k e r
    simp only [List.cons_append, askF, ih]
    split
    · split
      · rw [Nat.max_assoc]
      · rfl
    · rfl

/-- All at once, so many times. -/
def lev (E : List FE) : Nat → Nat → Nat
  | 0, _ => 0
  | s + 1, k => askF (lev E s) k E
def ClosedF (E : List FE) (y : Nat → Nat) : Prop := ∀ e ∈ E, y e.t + e.w ≤ y e.f
theorem lev_step (E : List FE) : ∀ (s k : Nat), lev E s k ≤ lev E (s + 1) k
  | 0, _ => Nat.zero_le _
  | s + 1, k => askF_mono (lev_step E s) k E
theorem lev_le (E : List FE) {s t : Nat} (h : s ≤ t) (k : Nat) : lev E s k ≤ lev E t k := by
  induction t with
  | zero => obtain rfl : s = 0 := by omega
            exact Nat.le_refl _
  | succ t ih =>
    rcases Nat.lt_or_ge t s with h1 | h1
    · obtain rfl : s = t + 1 := by omega
      exact Nat.le_refl _
    · exact Nat.le_trans (ih h1) (lev_step E t k)
theorem lev_closed {E : List FE} {y : Nat → Nat} (h : ClosedF E y) : ∀ (s k : Nat), lev E s k ≤ y k
  | 0, _ => Nat.zero_le _
  | s + 1, k => askF_le fun e he hk => by
    have := lev_closed h s e.t
    have := h e he
    rw [hk] at this
    omega
theorem lev_s (E : List FE) : ∀ (s k : Nat), lev E s k ≤ s
  | 0, _ => Nat.le_refl _
  | s + 1, k => askF_le fun e _ _ => by
    have := lev_s E s e.t
    have : e.w ≤ 1 := by unfold FE.w; split <;> omega
    omega
theorem lev_fix {E : List FE} {s : Nat} (h : ∀ k, lev E (s + 1) k = lev E s k) : ∀ t, s ≤ t → ∀ k, lev E t k = lev E s k := by
  intro t ht
  induction t with
  | zero => intro k; obtain rfl : s = 0 := by omega
            rfl
  | succ t ih =>
    intro k
    rcases Nat.lt_or_ge t s with h1 | h1
    · obtain rfl : s = t + 1 := by omega
      rfl
    · rw [← h k]
      exact Nat.le_antisymm (askF_mono (fun k => Nat.le_of_eq (ih h1 k)) k E) (askF_mono (fun k => Nat.le_of_eq (ih h1 k).symm) k E)
/-- The least numbers. -/
structure Least (E : List FE) (m : Nat → Nat) : Prop where
  up : ∀ s k, lev E s k ≤ m k
  at_ : ∀ k, ∃ s, m k ≤ lev E s k
theorem Least.closed {E : List FE} {m : Nat → Nat} (h : Least E m) : ClosedF E m := fun e he => by
  obtain ⟨s, hs⟩ := h.at_ e.t
  have h1 := askF_ge (x := lev E s) he rfl
  have h2 : askF (lev E s) e.f E ≤ m e.f := h.up (s + 1) e.f
  omega
theorem Least.fix {E : List FE} {m : Nat → Nat} (h : Least E m) (k : Nat) : askF m k E = m k := by
  refine Nat.le_antisymm (askF_le fun e he hk => hk ▸ h.closed e he) ?_
  obtain ⟨s, hs⟩ := h.at_ k
  cases s with
  | zero => exact Nat.le_trans hs (Nat.zero_le _)
  | succ s => exact Nat.le_trans hs (askF_mono (h.up s) k E)
theorem Least.min {E : List FE} {m y : Nat → Nat} (h : Least E m) (hy : ClosedF E y) (k : Nat) : m k ≤ y k := by
  obtain ⟨s, hs⟩ := h.at_ k
  exact Nat.le_trans hs (lev_closed hy s k)
theorem Least.one {E : List FE} {m y : Nat → Nat} (h : Least E m) (hy : Least E y) (k : Nat) : m k = y k := Nat.le_antisymm (h.min hy.closed k) (hy.min h.closed k)
/-- Places from n on have no edges. -/
def Within (E : List FE) (n : Nat) : Prop := ∀ e ∈ E, e.f < n ∧ e.t < n
theorem Least.out {E : List FE} {m : Nat → Nat} {n k : Nat} (h : Least E m) (hw : Within E n) (hk : n ≤ k) : m k = 0 := by
  rw [← h.fix k]
  exact Nat.le_zero.1 (askF_le fun e he hf => by have := (hw e he).1; omega)

theorem count_lt {p q : Nat → Bool} : ∀ {l : List Nat}, (∀ k ∈ l, p k = true → q k = true) → l.countP p = l.countP q → ∀ k ∈ l, q k = true → p k = true
  | a :: r, h, hc, k, hk, hq => by
    have ih := count_lt (l := r) (p := p) (q := q) fun k hk => h k (List.mem_cons_of_mem _ hk)
    have hle : r.countP p ≤ r.countP q := List.countP_mono_left fun k hk => h k (List.mem_cons_of_mem _ hk)
    have ha := h a (List.mem_cons_self ..)
    rw [List.countP_cons, List.countP_cons] at hc
    rcases List.mem_cons.1 hk with rfl | hk
    · cases hp : p k with
      | true => rfl
      | false =>
        rw [hp, hq] at hc
        simp only [Bool.false_eq_true, if_false, if_true] at hc
        omega
    · refine ih ?_ k hk hq
      cases hp : p a <;> cases hqa : q a <;> rw [hp, hqa] at hc <;> simp only [Bool.false_eq_true, if_false, if_true] at hc
      · exact hc
      · omega
      · rw [hp] at ha; rw [ha rfl] at hqa; cases hqa
      · omega
def lateB (E : List FE) (m : Nat → Nat) (s k : Nat) : Bool := decide (lev E s k < m k)
theorem late_step {E : List FE} {m : Nat → Nat} {n : Nat} (h : Least E m) (hw : Within E n) (s : Nat) : (List.range n).countP (lateB E m (s + 1)) < (List.range n).countP (lateB E m s) ∨ (List.range n).countP (lateB E m s) = 0 := by
  have hsub : ∀ k ∈ List.range n, lateB E m (s + 1) k = true → lateB E m s k = true := fun k _ hk => by
    unfold lateB at hk ⊢
    rw [decide_eq_true_eq] at hk ⊢
    have := lev_step E s k
    omega
  rcases Nat.lt_or_ge ((List.range n).countP (lateB E m (s + 1))) ((List.range n).countP (lateB E m s)) with h1 | h1
  · exact .inl h1
  have heq := Nat.le_antisymm (List.countP_mono_left hsub) h1
  have hall := count_lt hsub heq
  refine .inr ?_
  rw [List.countP_eq_zero]
  intro k hk hlk
  have late : ∀ k, k < n → lev E s k < m k → lev E (s + 1) k < m k := fun k hk hl => by
    have := hall k (List.mem_range.2 hk) (by unfold lateB; rw [decide_eq_true_eq]; exact hl)
    unfold lateB at this
    rwa [decide_eq_true_eq] at this
  have hcl : ClosedF E fun k => if k < n ∧ lev E s k < m k then m k - 1 else m k := by
    intro e he
    obtain ⟨hf, ht⟩ := hw e he
    have h0 := h.closed e he
    have h2 := askF_ge (x := lev E s) he rfl
    have h3 : lev E (s + 1) e.f = askF (lev E s) e.f E := rfl
    dsimp only
    by_cases c1 : lev E s e.f < m e.f
    · have h4 := late e.f hf c1
      rw [if_pos (c := e.f < n ∧ lev E s e.f < m e.f) ⟨hf, c1⟩]
      by_cases c2 : lev E s e.t < m e.t
      · rw [if_pos ⟨ht, c2⟩]; omega
      · rw [if_neg fun h => c2 h.2]; omega
    · rw [if_neg (c := e.f < n ∧ lev E s e.f < m e.f) fun h => c1 h.2]
      split <;> omega
  have h5 := h.min hcl k
  unfold lateB at hlk
  rw [decide_eq_true_eq] at hlk
  rw [if_pos ⟨List.mem_range.1 hk, hlk⟩] at h5
  omega
theorem late_none {E : List FE} {m : Nat → Nat} {n : Nat} (h : Least E m) (hw : Within E n) (hn : 0 < n) : ∀ s, (List.range n).countP (lateB E m s) ≤ n - 1 - s
  | 0 => by
    rcases Nat.lt_or_ge ((List.range n).countP (lateB E m 0)) n with h1 | h1
    · omega
    exfalso
    have hle := List.countP_le_length (p := lateB E m 0) (l := List.range n)
    rw [List.length_range] at hle
    have hall : ∀ k < n, 0 < m k := fun k hk => by
      have he : (List.range n).countP (lateB E m 0) = (List.range n).length := by rw [List.length_range]; omega
      have := List.countP_eq_length.1 he k (List.mem_range.2 hk)
      unfold lateB at this
      rw [decide_eq_true_eq] at this
      exact this
    have hcl : ClosedF E fun k => m k - 1 := fun e he => by
      have h0 := h.closed e he
      have := hall e.t (hw e he).2
      dsimp only
      omega
    have := h.min hcl 0
    have := hall 0 hn
    omega
  | s + 1 => by
    have ih := late_none h hw hn s
    rcases late_step h hw s with h1 | h1
    · omega
    · have : (List.range n).countP (lateB E m (s + 1)) ≤ (List.range n).countP (lateB E m s) := List.countP_mono_left fun k _ hk => by
        unfold lateB at hk ⊢
        rw [decide_eq_true_eq] at hk ⊢
        have := lev_step E s k
        omega
      omega
/-- So many steps as there are places, but for one, are enough; and no number is as great as there are places. -/
theorem Least.soon {E : List FE} {m : Nat → Nat} {n : Nat} (h : Least E m) (hw : Within E n) {s : Nat} (hs : n ≤ s + 1) (k : Nat) : lev E s k = m k := by
  refine Nat.le_antisymm (h.up s k) ?_
  rcases Nat.lt_or_ge k n with hk | hk
  · have h1 := late_none h hw (by omega) s
    have h2 : (List.range n).countP (lateB E m s) = 0 := by omega
    rw [List.countP_eq_zero] at h2
    have h3 := h2 k (List.mem_range.2 hk)
    unfold lateB at h3
    rw [decide_eq_true_eq] at h3
    omega
  · rw [h.out hw hk]; exact Nat.zero_le _
theorem Least.small {E : List FE} {m : Nat → Nat} {n k : Nat} (h : Least E m) (hw : Within E n) (hk : k < n) : m k < n := by
  have h1 := h.soon hw (s := n - 1) (by omega) k
  have h2 := lev_s E (n - 1) k
  omega
theorem Least.of_fix {E : List FE} {s : Nat} (h : ∀ k, lev E (s + 1) k = lev E s k) : Least E (lev E s) :=
  ⟨fun t k => by
    rcases Nat.le_total t s with h1 | h1
    · exact lev_le E h1 k
    · exact Nat.le_of_eq (lev_fix h t h1 k), fun k => ⟨s, Nat.le_refl _⟩⟩

def riseF (x : Nat → Nat) (e : FE) : Nat → Nat := if x e.t + e.w ≤ x e.f then x else fun k => if k = e.f then x e.t + e.w else x k
theorem riseF_ge (x : Nat → Nat) (e : FE) (k : Nat) : x k ≤ riseF x e k := by
  unfold riseF
  split
  · exact Nat.le_refl _
  · dsimp only
    split
    · rename_i h1 h2; subst h2; omega
    · exact Nat.le_refl _
theorem riseF_at (x : Nat → Nat) (e : FE) : x e.t + e.w ≤ riseF x e e.f := by
  unfold riseF
  split
  · assumption
  · dsimp only; rw [if_pos rfl]; exact Nat.le_refl _
theorem riseF_le {E : List FE} {x m : Nat → Nat} {e : FE} (he : e ∈ E) (hm : ClosedF E m) (h : ∀ k, x k ≤ m k) (k : Nat) : riseF x e k ≤ m k := by
  unfold riseF
  split
  · exact h k
  · dsimp only
    split
    · rename_i h2; subst h2; have := hm e he; have := h e.t; omega
    · exact h k
theorem riseF_lev {E : List FE} {x : Nat → Nat} {e : FE} {N : Nat} (he : e ∈ E) (h : ∀ k, x k ≤ lev E N k) (k : Nat) : riseF x e k ≤ lev E (N + 1) k := by
  have h1 := lev_step E N
  unfold riseF
  split
  · exact Nat.le_trans (h k) (h1 k)
  · dsimp only
    split
    · rename_i h2
      subst h2
      exact Nat.le_trans (Nat.add_le_add_right (h e.t) _) (askF_ge (x := lev E N) he rfl)
    · exact Nat.le_trans (h k) (h1 k)
def roundF (x : Nat → Nat) : List FE → Nat → Nat
  | [] => x
  | e :: r => roundF (riseF x e) r
theorem roundF_ge : ∀ (l : List FE) (x : Nat → Nat) (k : Nat), x k ≤ roundF x l k
  | [], _, _ => Nat.le_refl _
  | e :: r, x, k => Nat.le_trans (riseF_ge x e k) (roundF_ge r _ k)
theorem roundF_at : ∀ (l : List FE) (x : Nat → Nat) (e : FE), e ∈ l → x e.t + e.w ≤ roundF x l e.f
  | a :: r, x, e, he => by
    rcases List.mem_cons.1 he with rfl | he
    · exact Nat.le_trans (riseF_at x e) (roundF_ge r _ _)
    · exact Nat.le_trans (Nat.add_le_add_right (riseF_ge x a e.t) _) (roundF_at r _ e he)
theorem roundF_le {E : List FE} {m : Nat → Nat} (hm : ClosedF E m) : ∀ (l : List FE) (x : Nat → Nat), (∀ e ∈ l, e ∈ E) → (∀ k, x k ≤ m k) → ∀ k, roundF x l k ≤ m k
  | [], _, _, h, k => h k
  | e :: r, _, hl, h, k => roundF_le hm r _ (fun e he => hl e (List.mem_cons_of_mem _ he)) (riseF_le (hl e (List.mem_cons_self ..)) hm h) k
theorem roundF_lev {E : List FE} : ∀ (l : List FE) (x : Nat → Nat) (N : Nat), (∀ e ∈ l, e ∈ E) → (∀ k, x k ≤ lev E N k) → ∃ N', ∀ k, roundF x l k ≤ lev E N' k
  | [], _, N, _, h => ⟨N, h⟩
  | e :: r, _, N, hl, h => roundF_lev r _ (N + 1) (fun e he => hl e (List.mem_cons_of_mem _ he)) (riseF_lev (hl e (List.mem_cons_self ..)) h)
def quietF (x : Nat → Nat) (l : List FE) : Prop := ∀ e ∈ l, x e.t + e.w ≤ x e.f
/-- From a state that is no less than s steps at once: one round is no less than one step more. -/
theorem roundF_next {E : List FE} {x : Nat → Nat} {s : Nat} (h : ∀ k, lev E s k ≤ x k) (k : Nat) : lev E (s + 1) k ≤ roundF x E k :=
  askF_le fun e he hk => Nat.le_trans (Nat.add_le_add_right (h e.t) _) (hk ▸ roundF_at E x e he)
end Go.Proofs.YtcgbcbdgjhnlaaaGreat

/- Expressions as trees: their nodes, their tokens; what is parsed of these. -/
namespace Go.Proofs.YtcgbcbdgjhnlaaaGreat

inductive Tr where
  | this
  | rel (w : List UInt8)
  | arrow (w v : List UInt8)
  | op (k : Nat) (a b : Tr)
def Tr.size : Tr → Nat
  | .op _ a b => a.size + b.size + 1
  | _ => 1
def Tr.dep : Tr → Nat
  | .op _ a b => (if b.dep < a.dep then a.dep else b.dep) + 1
  | _ => 1
def Tr.ok : Tr → Prop
  | .this => True
  | .rel w => wordS w = true
  | .arrow w v => wordS w = true ∧ wordS v = true
  | .op k a b => (k = 4 ∨ k = 5 ∨ k = 6) ∧ a.ok ∧ b.ok
/-- Its nodes, behind so many others. -/
def layN : Nat → Tr → List NodeS
  | _, .this => [⟨1, [], [], 0, 0⟩]
  | _, .rel w => [⟨2, w, [], 0, 0⟩]
  | _, .arrow w v => [⟨3, w, v, 0, 0⟩]
  | m, .op k a b => layN m a ++ layN (m + a.size) b ++ [⟨k, [], [], ((m + a.size : Nat) : Int) - 1, ((m + a.size + b.size : Nat) : Int) - 1⟩]
theorem Tr.size_pos (t : Tr) : 1 ≤ t.size := by cases t <;> simp [Tr.size]
theorem layN_len : ∀ (t : Tr) (m : Nat), (layN m t).length = t.size
  | .this, _ => rfl
  | .rel _, _ => rfl
  | .arrow _ _, _ => rfl
  | .op k a b, m => by simp only [layN, List.length_append, layN_len a, layN_len b, List.length_singleton, Tr.size]
/-- What is a tree by the document's reckoning is one. -/
theorem tree_lay {l : List NodeS} : ∀ (f e a d : Nat), treeD l f e = some (a, d) → ∃ t : Tr, t.ok ∧ t.dep = d ∧ (l.drop a).take (e - a) = layN a t ∧ a + t.size = e
  | 0, e, a, d, h => by cases h
  | f + 1, 0, a, d, h => by cases h
  | f + 1, e + 1, a, d, h => by
    simp only [treeD] at h
    split at h
    · cases h
    · rename_i n hn
      have hl := (List.getElem?_eq_some_iff.1 hn).1
      split at h
      · rename_i hop
        split at h
        · cases h
        · rename_i b x hb
          obtain ⟨t2, o2, d2, s2, z2⟩ := tree_lay f _ _ _ hb
          split at h
          · cases h
          · rename_i a' y ha
            obtain ⟨t1, o1, d1, s1, z1⟩ := tree_lay f _ _ _ ha
            split at h
            · rename_i hc
              simp only [Option.some.injEq, Prod.mk.injEq] at h
              obtain ⟨rfl, rfl⟩ := h
              have q1 := t1.size_pos
              have q2 := t2.size_pos
              have hk : n.kind = 4 ∨ n.kind = 5 ∨ n.kind = 6 := by
                unfold isOp at hop
                simp only [Bool.or_eq_true, decide_eq_true_eq] at hop
                omega
              have ek : ((n.kind.toNat : Nat) : Int) = n.kind := by omega
              refine ⟨.op n.kind.toNat t1 t2, ⟨by omega, o1, o2⟩, ?_, ?_, ?_⟩
              · show (if t2.dep < t1.dep then t1.dep else t2.dep) + 1 = _
                rw [d1, d2]
              · have es : (l.drop a').take (e + 1 - a') = (l.drop a').take (b - a') ++ (l.drop b).take (e - b) ++ [n] := by
                  have e1 : (l.drop a').take (e - a') = (l.drop a').take (b - a') ++ (l.drop b).take (e - b) := by
                    rw [show e - a' = (b - a') + (e - b) by omega, List.take_add, List.drop_drop, show a' + (b - a') = b by omega]
                  rw [show e + 1 - a' = (e - a') + 1 by omega, List.take_add_one, e1, List.getElem?_drop, show a' + (e - a') = e by omega, hn]; rfl
                rw [es, s1, s2]
                obtain ⟨k, r, t, na, nb⟩ := n
                obtain ⟨h1, h2, h3, h4⟩ := hc
                dsimp only at h1 h2 h3 h4
                simp only [layN]
                rw [z1, z2, h1, h2, h3, h4, ek]
              · show a' + (t1.size + t2.size + 1) = _; omega
            · cases h
      · rename_i hop
        split at h
        · rename_i hleaf
          simp only [Option.some.injEq, Prod.mk.injEq] at h
          obtain ⟨rfl, rfl⟩ := h
          have es : (l.drop e).take (e + 1 - e) = [n] := by
            rw [show e + 1 - e = 0 + 1 by omega, List.take_add_one, List.getElem?_drop, Nat.add_zero, hn]; rfl
          obtain ⟨k, r, t, na, nb⟩ := n
          unfold leafN at hleaf
          simp only [Bool.and_eq_true, decide_eq_true_eq] at hleaf
          obtain ⟨⟨rfl, rfl⟩, hleaf⟩ := hleaf
          rw [es]
          split at hleaf
          · rename_i hk
            simp only [Bool.and_eq_true, decide_eq_true_eq] at hleaf
            obtain ⟨rfl, rfl⟩ := hleaf
            subst hk
            exact ⟨.this, trivial, rfl, rfl, rfl⟩
          · split at hleaf
            · rename_i hk
              simp only [Bool.and_eq_true, decide_eq_true_eq] at hleaf
              obtain ⟨hw, rfl⟩ := hleaf
              subst hk
              exact ⟨.rel r, hw, rfl, rfl, rfl⟩
            · split at hleaf
              · rename_i hk
                simp only [Bool.and_eq_true] at hleaf
                subst hk
                exact ⟨.arrow r t, hleaf, rfl, rfl, rfl⟩
              · cases hleaf
        · cases h
theorem deep_lay {l : List NodeS} (h : ¬ deepN l = 0) : ∃ t : Tr, t.ok ∧ l = layN 0 t ∧ deepN l = t.dep := by
  rw [deep_is] at h ⊢
  unfold deepD at h ⊢
  cases ht : treeD l l.length l.length with
  | none => rw [ht] at h; exact absurd rfl h
  | some p =>
    obtain ⟨a, d⟩ := p
    rw [ht] at h
    cases a with
    | succ a => exact absurd rfl h
    | zero =>
      obtain ⟨t, h1, h2, h3, h4⟩ := tree_lay _ _ _ _ ht
      refine ⟨t, h1, ?_, by rw [h2]; rfl⟩
      rw [← h3, List.drop_zero, Nat.sub_zero, List.take_length]

abbrev KT := Nat × List UInt8
def kt (x : Tok) : KT := (x.k, x.t)
theorem isT_of {x : Tok} {k : Nat} {t : List UInt8} (h : kt x = (k, t)) (h0 : ¬ k = 0) (h2 : ¬ k = 2) (s : List UInt8) : isT s x = decide (t = s) := by
  simp only [kt, Prod.mk.injEq] at h
  unfold isT
  rw [h.1, h.2, decide_eq_false h0, decide_eq_false h2]; rfl
def Stop (s : List UInt8) (post : List Tok) : Prop := takeB s post = false
theorem Stop.cons {x : Tok} {k : Nat} {t : List UInt8} (h : kt x = (k, t)) (h0 : ¬ k = 0) (h2 : ¬ k = 2) {s : List UInt8} (hs : ¬ t = s) (r : List Tok) : Stop s (x :: r) := by
  show isT s x = false
  rw [isT_of h h0 h2]; exact decide_eq_false hs
end Go.Proofs.YtcgbcbdgjhnlaaaGreat

/- Layer 18 (strata), the document's functions walked: All, Find, walk. No statement is proved here. -/
namespace Go.Proofs.YtcgbcbdgjhnlaaaGreat
open Go.RowKit

abbrev NameD := List UInt8 × RelS
def allP (ss : List SpaceS) : List NameD := ss.flatMap fun s => s.rels.map fun r => (s.name, r)
def allD (c : ConfS) : List NameD := allP c.spaces
def isN (sp rl : List UInt8) (x : NameD) : Bool := decide (x.1 = sp) && decide (x.2.name = rl)
def findD (l : List NameD) (sp rl : List UInt8) : Int := match l.findIdx? (isN sp rl) with | some k => k | none => -1
theorem findD_no {l : List NameD} {sp rl : List UInt8} (h : ∀ x ∈ l, isN sp rl x = false) : findD l sp rl = -1 := by
  unfold findD
  rw [List.findIdx?_eq_none_iff.2 h]
theorem findD_yes {l : List NameD} {sp rl : List UInt8} {i : Nat} {x : NameD} (hx : l[i]? = some x) (hq : isN sp rl x = true) (h : ∀ y ∈ l.take i, isN sp rl y = false) : findD l sp rl = i := by
  unfold findD
  have : l.findIdx? (isN sp rl) = some i := by
    obtain ⟨h1, h2⟩ := List.getElem?_eq_some_iff.1 hx
    rw [List.findIdx?_eq_some_iff_getElem]
    refine ⟨h1, by rw [h2]; exact hq, fun j hj => ?_⟩
    have := h l[j] (by rw [List.mem_take_iff_getElem]; exact ⟨j, by omega, rfl⟩)
    rw [this]; exact Bool.false_ne_true
  rw [this]
theorem findD_in (l : List NameD) (sp rl : List UInt8) : findD l sp rl = -1 ∨ ∃ (i : Nat) (x : NameD), findD l sp rl = i ∧ l[i]? = some x ∧ isN sp rl x = true := by
  unfold findD
  cases h : l.findIdx? (isN sp rl) with
  | none => exact .inl rfl
  | some i =>
    rw [List.findIdx?_eq_some_iff_getElem] at h
    obtain ⟨h1, h2, _⟩ := h
    exact .inr ⟨i, l[i], rfl, List.getElem?_eq_getElem h1, h2⟩
structure DE where
  f : Nat
  t : Int
  ab : Bool
def deC (e : DE) : List Value := [.int .i64 e.f, .int .i64 e.t, .bool e.ab]
def okD (es : List DE) : Bool := es.all fun e => decide (0 ≤ e.t)
def keyT (thn : List UInt8) (t : TypS) : List UInt8 := if thn = [] then t.rel else thn
def leafD (l : List NameD) (f : Nat) (ab : Bool) (thn : List UInt8) (types : List TypS) : List DE := (setsS types).map fun t => ⟨f, findD l t.space (keyT thn t), ab⟩
def leafR (l : List NameD) (f : Nat) (ab : Bool) (thn : List UInt8) (types : List TypS) : List DE × Bool := (leafD l f ab thn types, okD (leafD l f ab thn types) && (decide (thn = []) || !decide (leafD l f ab thn types = [])))
def typesAt (l : List NameD) (f : Nat) : List TypS := ((l[f]?).map (·.2.types)).getD []
def spAt (l : List NameD) (f : Nat) : List UInt8 := ((l[f]?).map (·.1)).getD []
def walkT (l : List NameD) (f : Nat) : Tr → Bool → List DE × Bool
  | .this, ab => leafR l f ab [] (typesAt l f)
  | .rel w, ab => ([⟨f, findD l (spAt l f) w, ab⟩], decide (0 ≤ findD l (spAt l f) w))
  | .arrow w v, ab => if findD l (spAt l f) w < 0 then ([], false) else leafR l f ab v (typesAt l (findD l (spAt l f) w).toNat)
  | .op k a b, ab => ((walkT l f a ab).1 ++ (walkT l f b (ab || decide (k = 6))).1, (walkT l f a ab).2 && (walkT l f b (ab || decide (k = 6))).2)
theorem setsS_le (l : List TypS) : (setsS l).length ≤ l.length := List.length_filter_le _ _
theorem walkT_len {l : List NameD} (hb : ∀ x ∈ l, x.2.types.length ≤ 1000) (f : Nat) : ∀ (t : Tr) (ab : Bool), (walkT l f t ab).1.length ≤ t.size * 1000
  | .this, ab => by
    show (leafD l f ab [] (typesAt l f)).length ≤ 1 * 1000
    unfold leafD typesAt
    rw [List.length_map]
    refine Nat.le_trans (setsS_le _) ?_
    cases h : l[f]? with
    | none => simp
    | some x => have := hb x (List.mem_of_getElem? h); simpa using this
  | .rel w, ab => by show 1 ≤ 1 * 1000; decide
  | .arrow w v, ab => by
    show (if findD l (spAt l f) w < 0 then (([], false) : List DE × Bool) else leafR l f ab v (typesAt l (findD l (spAt l f) w).toNat)).1.length ≤ 1 * 1000
    split
    · exact Nat.zero_le _
    · unfold leafR leafD typesAt
      dsimp only
      rw [List.length_map]
      refine Nat.le_trans (setsS_le _) ?_
      cases h : l[(findD l (spAt l f) w).toNat]? with
      | none => simp
      | some x => have := hb x (List.mem_of_getElem? h); simpa using this
  | .op k a b, ab => by
    have h1 := walkT_len hb f a ab
    have h2 := walkT_len hb f b (ab || decide (k = 6))
    simp only [walkT, List.length_append, Tr.size]
    omega
/-- A tree's nodes stand in a list, behind so many others. -/
def AtT (l : List NodeS) (m : Nat) (t : Tr) : Prop := ∃ pre post, l = pre ++ layN m t ++ post ∧ pre.length = m
theorem AtT.node {l : List NodeS} {m : Nat} {t : Tr} (h : AtT l m t) {i : Nat} (hi : i < t.size) : l[m + i]? = (layN m t)[i]? := by
  obtain ⟨pre, post, rfl, rfl⟩ := h
  rw [List.append_assoc, List.getElem?_append_right (by omega), Nat.add_sub_cancel_left, List.getElem?_append_left (by rw [layN_len]; exact hi)]
theorem AtT.left {l : List NodeS} {m k : Nat} {a b : Tr} (h : AtT l m (.op k a b)) : AtT l m a := by
  obtain ⟨pre, post, rfl, rfl⟩ := h
  exact ⟨pre, layN (pre.length + a.size) b ++ [⟨k, [], [], ((pre.length + a.size : Nat) : Int) - 1, ((pre.length + a.size + b.size : Nat) : Int) - 1⟩] ++ post, by simp only [layN, List.append_assoc], rfl⟩
theorem AtT.right {l : List NodeS} {m k : Nat} {a b : Tr} (h : AtT l m (.op k a b)) : AtT l (m + a.size) b := by
  obtain ⟨pre, post, rfl, rfl⟩ := h
  exact ⟨pre ++ layN pre.length a, [⟨k, [], [], ((pre.length + a.size : Nat) : Int) - 1, ((pre.length + a.size + b.size : Nat) : Int) - 1⟩] ++ post, by simp only [layN, List.append_assoc], by rw [List.length_append, layN_len]⟩
theorem AtT.len {l : List NodeS} {m : Nat} {t : Tr} (h : AtT l m t) : m + t.size ≤ l.length := by
  obtain ⟨pre, post, rfl, rfl⟩ := h
  simp only [List.length_append, layN_len]; omega
def rootT (m : Nat) : Tr → NodeS
  | .this => ⟨1, [], [], 0, 0⟩
  | .rel w => ⟨2, w, [], 0, 0⟩
  | .arrow w v => ⟨3, w, v, 0, 0⟩
  | .op k a b => ⟨k, [], [], ((m + a.size : Nat) : Int) - 1, ((m + a.size + b.size : Nat) : Int) - 1⟩
theorem AtT.root {l : List NodeS} {m : Nat} {t : Tr} (h : AtT l m t) : l[m + t.size - 1]? = some (rootT m t) := by
  have hp := t.size_pos
  rw [show m + t.size - 1 = m + (t.size - 1) by omega, h.node (by omega)]
  cases t with
  | this => rfl
  | rel w => rfl
  | arrow w v => rfl
  | op k a b =>
    simp only [layN, Tr.size, Nat.add_sub_cancel]
    rw [List.getElem?_append_right (by rw [List.length_append, layN_len, layN_len]; exact Nat.le_refl _), List.length_append, layN_len, layN_len, Nat.sub_self]; rfl

def nameR (W : PW) (x : NameD) (cs : List Value) : Prop := ∃ tv nv, cs = [strV x.1, strV x.2.name, tv, nv] ∧ RP typC W tv x.2.types ∧ RP nodeC W nv x.2.nodes
theorem nameR.mono (W W' : PW) (x : NameD) (cs : List Value) (l : W.Le W') (h : nameR W x cs) : nameR W' x cs := let ⟨tv, nv, e, h1, h2⟩ := h; ⟨tv, nv, e, h1.mono l, h2.mono l⟩
def nmO (A : Option Addr) (n c : Nat) (css : List (List Value)) : Own := ⟨.slice A n c, 116, 4, n, css.flatten⟩
structure AlSt where
  i : Nat
  n : Nat
  A : Option Addr
  c : Nat
  css : List (List Value)
theorem allP_snoc {ss : List SpaceS} {i : Nat} {s : SpaceS} (h : ss[i]? = some s) : allP (ss.take (i + 1)) = allP (ss.take i) ++ s.rels.map fun r => (s.name, r) := by
  unfold allP
  rw [List.take_add_one, h, List.flatMap_append]
  simp
set_option maxHeartbeats 4000000 in
theorem alld_x (x : ConfS) (cs : List Value) (W : PW) (hB : BdC x) (h : ConfR W x cs) : CallsX Tryz.prog 34 ⟨[.agg ⟨cs⟩]⟩ [] W fun v W' => RL nameR 4 W' v (allD x) := by
  obtain ⟨hb1, _, hb3⟩ := hB
  obtain ⟨sv, kv, rfl, hS, hK⟩ := h
  obtain ⟨a1, c1, rfl, _, hc1⟩ := hS.form
  obtain ⟨a2, c2, rfl, _, hc2⟩ := hK.form
  have hmax : (10000000 : Nat) ≤ maxLen := by decide
  refine pureNX hmix Tryz.func34 r34 (by kernel_rfl) [nilO 116 4] rfl [.agg ⟨[.slice a1 x.spaces.length c1, .slice a2 x.scopes.length c2]⟩] rfl ?_
  refine ⟨AlSt, fun t => [(3, .v (.slice t.A t.n t.c)), (4, .v (.int .i64 t.i))], fun _ => [[.v (.slice a1 x.spaces.length c1), .v (.slice a2 x.scopes.length c2)]], fun t => [nmO t.A t.n t.c t.css], fun t W' => t.i ≤ x.spaces.length ∧ t.n = (allP (x.spaces.take t.i)).length ∧ t.n ≤ 1000 * t.i ∧ LR nameR 4 W' (allP (x.spaces.take t.i)) t.css, fun t => x.spaces.length - t.i, ⟨0, 0, none, 0, []⟩,
    all_sl ⟨rfl, rfl, trivial⟩, rfl, ole_refl _, ⟨Nat.zero_le _, rfl, Nat.le_refl _, trivial⟩, loopOK (fun _ => ⟨⟨trivial, rfl⟩, ⟨trivial, rfl⟩, trivial⟩) (fun _ => rfl) (fun _ => rfl), ?_⟩
  rintro ⟨i, n, A, c, css⟩ W1 l1 ⟨hi, hn, hn1, hL⟩ fr
  dsimp only at hi hn hn1 hL
  refine ⟨rfl, ?_⟩
  apply br_split
  · intro h1
    have hqi : (i : Int) < x.spaces.length := h1
    obtain ⟨pc, rfl, s, ds, hx, hcl, ⟨rv, hds, hR⟩, hall, _⟩ := hS.at SpR.mono l1 (j := i) ⟨by omega, hqi⟩
    have hx : x.spaces[i]? = some s := hx
    obtain ⟨hb4, hb5⟩ := hb3 s (List.mem_of_getElem? hx)
    obtain ⟨a3, c3, rfl, _, hc3⟩ := hR.form
    subst hds
    obtain ⟨nm, hnm⟩ : ∃ nm, s.name = nm := ⟨_, rfl⟩
    rw [hnm] at hall
    refine ⟨AlSt, fun t => [(3, .v (.slice t.A t.n t.c)), (5, .v (.int .i64 t.i))], fun _ => [[.v (.slice (some pc) x.spaces.length c1), .v (.slice a2 x.scopes.length c2)]], fun t => [nmO t.A t.n t.c t.css], fun t W' => t.i ≤ s.rels.length ∧ t.n = n + t.i ∧ LR nameR 4 W' (allP (x.spaces.take i) ++ (s.rels.take t.i).map fun r => (s.name, r)) t.css, fun t => s.rels.length - t.i, ⟨0, n, A, c, css⟩,
      all_sl ⟨rfl, rfl, trivial⟩, rfl, ole_refl _, ⟨Nat.zero_le _, rfl, by dsimp only; rw [List.take_zero, List.map_nil, List.append_nil]; exact hL⟩, loopOK (fun _ => ⟨⟨trivial, rfl⟩, ⟨trivial, rfl⟩, trivial⟩) (fun _ => rfl) (fun _ => rfl), ?_⟩
    rintro ⟨k, n2, A2, d2, dss⟩ W5 l5 ⟨hkn, hn2, hL2⟩ fr2
    dsimp only at hkn hn2 hL2
    refine ⟨⟨by omega, hqi⟩, pc, rfl, .slice a3 s.rels.length c3, ((hall 1 _ rfl).mono l5).o, rfl, ?_⟩
    apply br_split
    · intro h2
      have hqk : (k : Int) < s.rels.length := h2
      obtain ⟨pd, rfl, r, es, hy, hcl2, ⟨tv, nv, hes, hT, hN⟩, _, hrd2⟩ := hR.at RelR.mono l5 (j := k) ⟨by omega, hqk⟩
      have hy : s.rels[k]? = some r := hy
      obtain ⟨a4, c4, rfl, hc4, hc4'⟩ := hT.form
      obtain ⟨a5, c5, rfl, hc5, hc5'⟩ := hN.form
      subst hes
      obtain ⟨rn, hrn⟩ : ∃ nm, r.name = nm := ⟨_, rfl⟩
      rw [hrn] at hrd2
      refine ⟨⟨by omega, hqi⟩, pc, rfl, strV nm, ((hall 0 _ rfl).mono l5).o, ⟨by omega, hqi⟩, pc, rfl, .slice (some pd) s.rels.length c3, ((hall 1 _ rfl).mono l5).o, ⟨by omega, hqk⟩, pd, rfl, [strV rn, .slice a4 r.types.length c4, .slice a5 r.nodes.length c5], rfl, hrd2.o, ?_⟩
      refine ⟨rfl, .inl ?_⟩
      intro bd Wd ld hrd
      refine ⟨0, _, [strV nm, strV rn, .slice a4 r.types.length c4, .slice a5 r.nodes.length c5], rfl, rfl, rfl, rfl, rfl, ?_, fun _ => ⟨_, rfl, hrd.o⟩, by show n2 + 1 ≤ maxLen; omega, by show (n2 + 1) * 80 ≤ 140737488355328; omega, rfl, @fun Ae ce _ => ?_⟩
      · intro u hu
        simp only [List.mem_cons, List.not_mem_nil, or_false] at hu
        rcases hu with rfl | rfl | rfl | rfl <;> rfl
      refine ⟨rfl, _, (i64_in ((k : Int) + 1) ⟨by omega, by omega⟩).symm, ⟨k + 1, n2 + 1, Ae, ce, dss ++ [[strV nm, strV rn, .slice a4 r.types.length c4, .slice a5 r.nodes.length c5]]⟩, all_sl ⟨rfl, rfl, trivial⟩, rfl, ole_eq ?_, ⟨by dsimp only; omega, by dsimp only; omega, ?_⟩, by dsimp only; omega⟩
      · have : (dss ++ [[strV nm, strV rn, .slice a4 r.types.length c4, .slice a5 r.nodes.length c5]]).flatten = dss.flatten ++ [strV nm, strV rn, .slice a4 r.types.length c4, .slice a5 r.nodes.length c5] := by simp
        unfold nmO
        dsimp only
        rw [this]
        rfl
      · have : allP (x.spaces.take i) ++ (s.rels.take (k + 1)).map (fun r => (s.name, r)) = (allP (x.spaces.take i) ++ (s.rels.take k).map fun r => (s.name, r)) ++ [(s.name, r)] := by rw [List.take_add_one, hy]; simp
        dsimp only
        rw [this]
        have hRR : nameR Wd (s.name, r) [strV nm, strV rn, .slice a4 r.types.length c4, .slice a5 r.nodes.length c5] := ⟨_, _, by rw [hnm, hrn], hT.mono ld, hN.mono ld⟩
        exact LR.snoc rfl hRR (hL2.mono nameR.mono ld)
    · intro h2
      have hqk : ¬ (k : Int) < s.rels.length := h2
      have ek : k = s.rels.length := by omega
      rw [ek, List.take_length, ← allP_snoc hx] at hL2
      exact ⟨rfl, _, (i64_in ((i : Int) + 1) ⟨by omega, by omega⟩).symm, ⟨i + 1, n2, A2, d2, dss⟩, all_sl ⟨rfl, rfl, trivial⟩, rfl, ole_refl _, ⟨by dsimp only; omega, by dsimp only; rw [allP_snoc hx, List.length_append, List.length_map]; omega, by dsimp only; omega, hL2⟩, by dsimp only; omega⟩
  · intro h1
    have hqi : ¬ (i : Int) < x.spaces.length := h1
    have ei : i = x.spaces.length := by omega
    rw [ei, List.take_length] at hL hn
    refine RetVC.freeze (i := 0) (fun _ hb => hb) rfl fun W3 l3 hfr => ?_
    refine ret_plain rfl fun W4 l4 => ⟨css, hL.mono nameR.mono (l3.trans l4), ?_⟩
    have h3 : SlRead W4 (.slice A n c) n css.flatten := SlRead.mono hfr l4
    show SlRead W4 (.slice A n c) (allP x.spaces).length css.flatten
    rw [← hn]; exact h3

theorem isN_take {l : List NameD} {sp rl : List UInt8} {i : Nat} {x : NameD} (hx : l[i]? = some x) (h : ∀ y ∈ l.take i, isN sp rl y = false) (hq : isN sp rl x = false) : ∀ y ∈ l.take (i + 1), isN sp rl y = false := by
  intro y hy
  rw [List.take_add_one, hx] at hy
  rcases List.mem_append.1 hy with hy | hy
  · exact h y hy
  · simp only [Option.toList_some, List.mem_singleton] at hy; subst hy; exact hq
set_option maxHeartbeats 4000000 in
theorem findd_x (l : List NameD) (sp rl : List UInt8) (u : Value) (W : PW) (hl : l.length ≤ 1000000) (h : RL nameR 4 W u l) : CallsX Tryz.prog 49 ⟨[u, strV sp, strV rl]⟩ [] W fun v _ => v = .int .i64 (findD l sp rl) := by
  obtain ⟨a1, c1, rfl, _, _⟩ := h.form
  refine pureX hmix Tryz.func49 r49 (by kernel_rfl) [.slice a1 l.length c1, strV sp, strV rl] rfl ?_
  refine ⟨Nat, fun i => [(7, .v (.int .i64 i))], fun _ => [], fun _ => [], fun i _ => i ≤ l.length ∧ ∀ y ∈ l.take i, isN sp rl y = false, fun i => l.length - i, 0,
    all_sl ⟨rfl, trivial⟩, rfl, ole_refl _, ⟨Nat.zero_le _, fun y hy => by simp at hy⟩, loopOK (fun _ => ⟨⟨trivial, rfl⟩, trivial⟩) (fun _ => rfl) (fun _ => rfl), ?_⟩
  rintro i W1 l1 ⟨hi, hno⟩ fr
  refine ⟨rfl, ?_⟩
  apply br_split
  · intro h1
    have hq : (i : Int) < l.length := h1
    obtain ⟨pc, rfl, ⟨xs, xr⟩, ds, hx, hcl, ⟨tv, nv, hds, _, _⟩, hall, _⟩ := h.at nameR.mono l1 (j := i) ⟨by omega, hq⟩
    have hx : l[i]? = some (xs, xr) := hx
    subst hds
    obtain ⟨rn, hrn⟩ : ∃ nm, xr.name = nm := ⟨_, rfl⟩
    dsimp only at hall
    rw [hrn] at hall
    refine ⟨⟨by omega, hq⟩, pc, rfl, strV xs, (hall 0 _ rfl).o, ?_⟩
    apply br_split
    · intro h2
      have h2 : xs = sp := h2
      have hr1 : Rd W1 (((pc.add ((i : Int).toNat * 4)).add 1).add 0) (strV rn) := by rw [Addr.add_add]; exact hall 1 _ rfl
      refine ⟨⟨by omega, hq⟩, pc, rfl, strV rn, hr1.o, ?_⟩
      apply br_split
      · intro h3
        have h3 : rn = rl := h3
        refine ret_plain rfl fun _ _ => ?_
        rw [findD_yes hx (by unfold isN; rw [Bool.and_eq_true, decide_eq_true_eq, decide_eq_true_eq]; exact ⟨h2, by dsimp only; rw [hrn]; exact h3⟩) hno]
      · intro h3
        have h3 : ¬ rn = rl := h3
        exact ⟨rfl, _, (i64_in ((i : Int) + 1) ⟨by omega, by omega⟩).symm, i + 1, all_sl ⟨rfl, trivial⟩, rfl, ole_refl _, ⟨by omega, isN_take hx hno (by unfold isN; rw [decide_eq_false (p := xr.name = rl) (by rw [hrn]; exact h3), Bool.and_false])⟩, by dsimp only; omega⟩
    · intro h2
      have h2 : ¬ xs = sp := h2
      exact ⟨rfl, _, (i64_in ((i : Int) + 1) ⟨by omega, by omega⟩).symm, i + 1, all_sl ⟨rfl, trivial⟩, rfl, ole_refl _, ⟨by omega, isN_take hx hno (by unfold isN; rw [decide_eq_false (p := xs = sp) h2, Bool.false_and])⟩, by dsimp only; omega⟩
  · intro h1
    have hq : ¬ (i : Int) < l.length := h1
    have ei : i = l.length := by omega
    rw [ei, List.take_length] at hno
    exact ret_plain rfl fun _ _ => by rw [findD_no hno]
end Go.Proofs.YtcgbcbdgjhnlaaaGreat
