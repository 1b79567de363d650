/- A region that draws its order: one order that is walked stands for all. -/
import Derived.Test.YtcgbcbdgjhnlaaaStep
namespace Go.Proofs.Ytcgbcbdgjhnlaaa
open Go.RowKit

/-- Ahead of it in every order. -/
inductive Past (ops : Array Oper) : Nat → Nat → Prop where
  | one {i j : Nat} : i ∈ directs ops j → Past ops i j
  | more {i k j : Nat} : Past ops i k → k ∈ directs ops j → Past ops i j

theorem addNew_mem : ∀ {r l : List Nat} {x : Nat}, x ∈ addNew l r → x ∈ l ∨ x ∈ r
  | [], l, x, h => .inl h
  | j :: r, l, x, h => by
    simp only [addNew] at h
    cases hc : l.contains j <;> simp only [hc, cond_true, cond_false] at h <;> rcases addNew_mem h with h | h
    · rcases List.mem_cons.1 h with rfl | h
      · exact .inr (List.mem_cons_self ..)
      · exact .inl h
    · exact .inr (List.mem_cons_of_mem _ h)
    · exact .inl h
    · exact .inr (List.mem_cons_of_mem _ h)
theorem addPasts_mem {l : List (List Nat)} : ∀ {ds acc : List Nat} {x : Nat}, x ∈ addPasts l acc ds → x ∈ acc ∨ ∃ j ∈ ds, x = j ∨ x ∈ l.getD j []
  | [], acc, x, h => .inl h
  | j :: r, acc, x, h => by
    simp only [addPasts] at h
    rcases addPasts_mem h with h | ⟨i, hi, h⟩
    · rcases addNew_mem h with h | h
      · exact .inl h
      · rcases List.mem_cons.1 h with rfl | h
        · exact .inr ⟨x, List.mem_cons_self .., .inl rfl⟩
        · exact .inr ⟨j, List.mem_cons_self .., .inr h⟩
    · exact .inr ⟨i, List.mem_cons_of_mem _ hi, h⟩
theorem pasts_len (ops : Array Oper) : ∀ n, (pasts ops n).length = n
  | 0 => rfl
  | n + 1 => by simp [pasts, pasts.pastsStep, pasts_len ops n]
theorem pasts_sound (ops : Array Oper) : ∀ (n j : Nat) {x : Nat}, x ∈ (pasts ops n).getD j [] → Past ops x j
  | 0, j, x, h => by simp [pasts] at h
  | n + 1, j, x, h => by
    simp only [pasts, pasts.pastsStep] at h
    rcases Nat.lt_trichotomy j n with hlt | heq | hgt
    · have : (pasts ops n ++ [addPasts (pasts ops n) [] (directs ops n)]).getD j [] = (pasts ops n).getD j [] := by
        simp [List.getD, List.getElem?_append_left (show j < (pasts ops n).length by rw [pasts_len]; exact hlt)]
      rw [this] at h
      exact pasts_sound ops n j h
    · subst heq
      have : (pasts ops j ++ [addPasts (pasts ops j) [] (directs ops j)]).getD j [] = addPasts (pasts ops j) [] (directs ops j) := by
        simp [List.getD, pasts_len]
      rw [this] at h
      rcases addPasts_mem h with h | ⟨i, hi, rfl | h⟩
      · cases h
      · exact .one hi
      · exact .more (pasts_sound ops j i h) hi
    · have : (pasts ops n ++ [addPasts (pasts ops n) [] (directs ops n)]).getD j [] = [] := by
        simp [List.getD, List.getElem?_eq_none (show (pasts ops n ++ [addPasts (pasts ops n) [] (directs ops n)]).length ≤ j by simp [pasts_len]; omega)]
      rw [this] at h; cases h

section
variable {P : Program} {ops : Array Oper}

def YW (P : Program) (ops : Array Oper) (o : Oper) (v : Value) (a : Act) (w : World) : Prop :=
  (Region.wanted o (yielded ops a.tmps) = true ∧ (execOp a.eval o).run P w = .ok (.value v) w) ∨ (Region.wanted o (yielded ops a.tmps) = false ∧ v = undef)
def LoudAt (P : Program) (ops : Array Oper) (o : Oper) (a : Act) (w : World) (R : Value → World → Prop) : Prop :=
  (Region.wanted o (yielded ops a.tmps) = true → OpPost P ((execOp a.eval o).run P w) R) ∧ (Region.wanted o (yielded ops a.tmps) = false → R undef w)

abbrev Pend := List (Nat × Value × Act)
/-- The walk of a tree of orders. -/
def Canon (P : Program) (ops : Array Oper) (Q' : Act → World → Prop) : DT → Pend → Act → World → Prop
  | .nil, _, a, w => Q' a w
  | .op i m r, pend, a, w => ∃ o, ops[i]? = some o ∧ match isQ m.op with
    | true => ∃ v, YW P ops o v a w ∧ Canon P ops Q' r ((i, v, a) :: pend) (a.put o.dst v) w
    | false => LoudAt P ops o a w fun v w' => (∀ p ∈ pend.filter (fun p => !m.past.contains p.1), ∃ oq, ops[p.1]? = some oq ∧ YW P ops oq p.2.1 p.2.2 w') ∧
        Canon P ops Q' r (pend.filter fun p => !m.past.contains p.1) (a.put o.dst v) w'
  | .both x y, pend, a, w => Canon P ops Q' x pend a w ∧ Canon P ops Q' y pend a w

/-! ### Frames by the operations that have been carried out -/
def dstOf (ops : Array Oper) (i : Nat) : Option Nat := (ops[i]?).bind (·.dst)
def slotVal (ops : Array Oper) (a₀ : Act) (E : List (Nat × Value)) (t : Nat) : Value :=
  match E.find? (fun p => dstOf ops p.1 == some t) with
  | some p => p.2
  | none => a₀.tmps.getD t undef
structure RA (ops : Array Oper) (a₀ a : Act) (E : List (Nat × Value)) : Prop where
  defers : a.defers = a₀.defers
  size : a.tmps.size = a₀.tmps.size
  val : ∀ t, t < a₀.tmps.size → a.tmps.getD t undef = slotVal ops a₀ E t

theorem RA.put {a₀ a : Act} {E : List (Nat × Value)} (h : RA ops a₀ a E) {i : Nat} {o : Oper} (hi : ops[i]? = some o) (v : Value) : RA ops a₀ (a.put o.dst v) ((i, v) :: E) := by
  have hd : dstOf ops i = o.dst := by simp [dstOf, hi]
  refine ⟨?_, ?_, fun t ht => ?_⟩
  · cases hh : o.dst <;> simp [Act.put, h.defers]
  · cases hh : o.dst <;> simp [Act.put, h.size]
  · have hv := h.val t ht
    simp only [slotVal, List.find?_cons, hd] at hv ⊢
    cases ho : o.dst with
    | none => simp only [Act.put]; simpa using hv
    | some d =>
      by_cases hdt : d = t
      · subst hdt
        have : d < a.tmps.size := by rw [h.size]; exact ht
        simp [Act.put, this]
      · have h1 : (some d == some t) = false := by simp [hdt]
        simp only [h1, Act.put]
        rw [← hv]
        simp [Array.getElem?_setIfInBounds_ne hdt]

theorem slotVal_eq {a₀ : Act} {E₁ E₂ : List (Nat × Value)} {t : Nat} (hu : ∀ i j, dstOf ops i = some t → dstOf ops j = some t → i = j)
    (n1 : ∀ i v u, (i, v) ∈ E₁ → (i, u) ∈ E₁ → v = u) (h : ∀ i v, dstOf ops i = some t → ((i, v) ∈ E₁ ↔ (i, v) ∈ E₂)) : slotVal ops a₀ E₁ t = slotVal ops a₀ E₂ t := by
  simp only [slotVal]
  cases h1 : E₁.find? (fun p => dstOf ops p.1 == some t) with
  | some p =>
    have hp := List.find?_some h1
    have hm := List.mem_of_find?_eq_some h1
    simp only [beq_iff_eq] at hp
    cases h2 : E₂.find? (fun p => dstOf ops p.1 == some t) with
    | some q =>
      have hq := List.find?_some h2
      have hmq := List.mem_of_find?_eq_some h2
      simp only [beq_iff_eq] at hq
      obtain ⟨i, v⟩ := p
      obtain ⟨j, u⟩ := q
      have hij := hu i j hp hq
      subst hij
      exact n1 i v u hm ((h i u hq).2 hmq)
    | none =>
      have := List.find?_eq_none.1 h2 p ((h p.1 p.2 hp).1 hm)
      simp [hp] at this
  | none =>
    cases h2 : E₂.find? (fun p => dstOf ops p.1 == some t) with
    | some q =>
      have hq := List.find?_some h2
      have hmq := List.mem_of_find?_eq_some h2
      simp only [beq_iff_eq] at hq
      have := List.find?_eq_none.1 h1 q ((h q.1 q.2 hq).2 hmq)
      simp [hq] at this
    | none => rfl

/-- Two frames alike where an operation looks. -/
def Alike (ops : Array Oper) (o : Oper) (a a' : Act) : Prop := ∀ t, t ∈ o.looksAt ops → a.tmps[t]? = a'.tmps[t]?
theorem alike_exec {o : Oper} {a a' : Act} (hs : ∀ cs b, o.op ≠ .select cs b) (h : Alike ops o a a') : execOp a.eval o = execOp a'.eval o := by
  refine execOp_congr o hs fun x hx => ?_
  cases x with
  | tmp t =>
    have : t ∈ o.looksAt ops := List.mem_append_left _ (List.mem_filterMap.2 ⟨.tmp t, by simpa using hx, rfl⟩)
    simp [Act.eval, h t this]
  | _ => rfl
theorem alike_wanted {o : Oper} {a a' : Act} (h : Alike ops o a a') : Region.wanted o (yielded ops a.tmps) = Region.wanted o (yielded ops a'.tmps) := by
  unfold Region.wanted
  cases hg : o.guard with
  | none => rfl
  | some gw =>
    obtain ⟨g, want⟩ := gw
    have : yielded ops a.tmps g = yielded ops a'.tmps g := by
      unfold yielded
      cases ht : (ops[g]?).bind (·.dst) with
      | none => rfl
      | some t =>
        have hm : t ∈ o.looksAt ops := List.mem_append_right _ (by simp [hg, ht])
        simp [h t hm]
    simp only [this]
theorem YW.alike {o : Oper} {v : Value} {a a' : Act} {w : World} (hs : ∀ cs b, o.op ≠ .select cs b) (h : Alike ops o a a') (hy : YW P ops o v a w) : YW P ops o v a' w := by
  unfold YW at *
  rwa [← alike_exec hs h, ← alike_wanted h]
theorem LoudAt.alike {o : Oper} {R : Value → World → Prop} {a a' : Act} {w : World} (hs : ∀ cs b, o.op ≠ .select cs b) (h : Alike ops o a a') (hy : LoudAt P ops o a w R) : LoudAt P ops o a' w R := by
  unfold LoudAt at *
  rwa [← alike_exec hs h, ← alike_wanted h]

theorem YW.wpOp {o : Oper} {i : Nat} {v : Value} {a : Act} {w : World} {K : Act → World → Prop} {Q : Exit → Act → World → Prop} (hi : ops[i]? = some o) (h : YW P ops o v a w) (hk : K (a.put o.dst v) w) : wpOp P ops Q i K a w := by
  unfold Go.wpOp
  simp only [hi]
  rcases h with ⟨hw, hr⟩ | ⟨hw, rfl⟩
  · simp only [hw, if_true, Oper.wp, hr, Oper.upon]; exact .inl hk
  · simp only [hw, Bool.false_eq_true, if_false]; exact hk
theorem LoudAt.wpOp {o : Oper} {i : Nat} {R : Value → World → Prop} {a : Act} {w : World} {K : Act → World → Prop} {Q : Exit → Act → World → Prop} (hi : ops[i]? = some o) (h : LoudAt P ops o a w R) (hk : ∀ v w', R v w' → K (a.put o.dst v) w') : wpOp P ops Q i K a w := by
  unfold Go.wpOp
  simp only [hi]
  cases hw : Region.wanted o (yielded ops a.tmps) with
  | true =>
    rw [if_pos rfl]
    exact .inl (upon_of_post (h.1 hw) hk)
  | false =>
    rw [if_neg Bool.false_ne_true]
    exact hk _ _ (h.2 hw)

/-! ### The static facts -/
structure Good (ops : Array Oper) : Prop where
  lt : ∀ i j, j ∈ directs ops i → i < ops.size → j < i
  uniq : ∀ i j t, dstOf ops i = some t → dstOf ops j = some t → i = j
  look : ∀ i j (o : Oper) t, dstOf ops i = some t → ops[j]? = some o → t ∈ o.looksAt ops → i ≠ j ∧ (Past ops i j ∨ Past ops j i)
  sel : ∀ (j : Nat) (o : Oper) cs b, ops[j]? = some o → o.op ≠ .select cs b

theorem dstOf_lt {i t : Nat} (h : dstOf ops i = some t) : i < ops.size := by
  rcases Nat.lt_or_ge i ops.size with hlt | hge
  · exact hlt
  · simp [dstOf, Array.getElem?_eq_none hge] at h

theorem good_of {ps : List (List Nat)} (hps : ps = pasts ops ops.size) (h1 : directsLt ops = true) (h2 : pairsOk ops ps ops.size = true) (h3 : Region.noSelect ops = true) : Good ops := by
  have pair : ∀ i j oi oj d, ops[i]? = some oi → ops[j]? = some oj → oi.dst = some d → (i = j ∨ oj.dst ≠ some d) ∧ (d ∈ oj.looksAt ops → i ≠ j ∧ (Past ops i j ∨ Past ops j i)) := by
    intro i j oi oj d hi hj hd
    have hil := (Array.getElem?_eq_some_iff.1 hi).1
    have hjl := (Array.getElem?_eq_some_iff.1 hj).1
    simp only [pairsOk, List.all_eq_true, List.mem_range] at h2
    have h := h2 i hil j hjl
    simp only [hi, hj, hd, Bool.and_eq_true, Bool.or_eq_true, Bool.not_eq_true'] at h
    refine ⟨?_, fun hl => ?_⟩
    · rcases h.1 with h | h
      · exact .inl (Nat.eq_of_beq_eq_true h)
      · exact .inr (by simpa using h)
    · rcases h.2 with h | ⟨h4, h5⟩
      · rw [← Bool.not_eq_true] at h
        exact absurd (by simpa using hl) h
      · refine ⟨fun e => (by subst e; rw [Nat.beq_refl] at h4; cases h4), ?_⟩
        subst hps
        rcases h5 with h5 | h5
        · exact .inl (pasts_sound ops _ _ (by simpa using h5))
        · exact .inr (pasts_sound ops _ _ (by simpa using h5))
  refine ⟨fun i j hj hi => ?_, fun i j t hi hj => ?_, fun i j o t hi hj hl => ?_, fun j o cs b hj => Region.noSelect_spec h3 j o cs b hj⟩
  · simp only [directsLt, List.all_eq_true, List.mem_range] at h1
    exact ble_le (a := j + 1) (h1 i hi j hj)
  · simp only [dstOf] at hi hj
    cases hoi : ops[i]? with
    | none => simp [hoi] at hi
    | some oi =>
      cases hoj : ops[j]? with
      | none => simp [hoj] at hj
      | some oj =>
        simp only [hoi, hoj, Option.bind_some] at hi hj
        rcases (pair i j oi oj t hoi hoj hi).1 with h | h
        · exact h
        · exact absurd hj h
  · simp only [dstOf] at hi
    cases hoi : ops[i]? with
    | none => simp [hoi] at hi
    | some oi =>
      simp only [hoi, Option.bind_some] at hi
      exact (pair i j oi o t hoi hj hi).2 hl

def idx (E : List (Nat × Value)) : List Nat := E.map (·.1)
def Closed (ops : Array Oper) (l : List Nat) : Prop := ∀ i ∈ l, ∀ j ∈ directs ops i, j ∈ l
theorem Closed.past {l : List Nat} (h : Closed ops l) {i j : Nat} (hp : Past ops i j) : j ∈ l → i ∈ l := by
  induction hp with
  | one hd => exact fun hj => h _ hj _ hd
  | more _ hd ih => exact fun hj => ih (h _ hj _ hd)
theorem past_of_ready {l : List Nat} (h : Closed ops l) {i j : Nat} (hd : ∀ k ∈ directs ops j, k ∈ l) (hp : Past ops i j) : i ∈ l := by
  cases hp with
  | one hi => exact hd _ hi
  | more hp' hk => exact h.past hp' (hd _ hk)
theorem mem_idx {E : List (Nat × Value)} {i : Nat} : i ∈ idx E ↔ ∃ v, (i, v) ∈ E := by
  simp [idx]
theorem nodup_val : ∀ {E : List (Nat × Value)}, (idx E).Nodup → ∀ i v u, (i, v) ∈ E → (i, u) ∈ E → v = u
  | [], _, i, v, u, h, _ => by cases h
  | (j, x) :: E, hn, i, v, u, h1, h2 => by
    simp only [idx, List.map_cons, List.nodup_cons] at hn
    rcases List.mem_cons.1 h1 with h1 | h1 <;> rcases List.mem_cons.1 h2 with h2 | h2
    · simp only [Prod.mk.injEq] at h1 h2; rw [h1.2, h2.2]
    · simp only [Prod.mk.injEq] at h1; exact absurd (by rw [← h1.1]; exact mem_idx.2 ⟨u, h2⟩) hn.1
    · simp only [Prod.mk.injEq] at h2; exact absurd (by rw [← h2.1]; exact mem_idx.2 ⟨v, h1⟩) hn.1
    · exact nodup_val hn.2 i v u h1 h2

/-- Two frames are alike where an operation looks, if all that is ahead of it has been carried out in both, with one result, and nothing that is behind it in either. -/
theorem alike_of {a₀ a a' : Act} {E E' F : List (Nat × Value)} (g : Good ops) (h : RA ops a₀ a E) (h' : RA ops a₀ a' E') (hF : (idx F).Nodup) (s : ∀ p ∈ E, p ∈ F) (s' : ∀ p ∈ E', p ∈ F) {j : Nat} {o : Oper} (hj : ops[j]? = some o)
    (p1 : ∀ i, Past ops i j → i ∈ idx E) (p2 : ∀ i, Past ops i j → i ∈ idx E') (q1 : ∀ i, Past ops j i → i ∉ idx E) (q2 : ∀ i, Past ops j i → i ∉ idx E') : Alike ops o a a' := by
  intro t ht
  have hval := nodup_val hF
  rcases Nat.lt_or_ge t a₀.tmps.size with hlt | hge
  · have e : slotVal ops a₀ E t = slotVal ops a₀ E' t := by
      refine slotVal_eq (fun i k hi hk => g.uniq i k t hi hk) (fun i v u hv hu => hval i v u (s _ hv) (s _ hu)) fun i v hi => ?_
      obtain ⟨hne, hp | hp⟩ := g.look i j o t hi hj ht
      · obtain ⟨v1, hv1⟩ := mem_idx.1 (p1 i hp)
        obtain ⟨v2, hv2⟩ := mem_idx.1 (p2 i hp)
        constructor
        · intro hm
          have := hval i v v2 (s _ hm) (s' _ hv2)
          rw [this]; exact hv2
        · intro hm
          have := hval i v v1 (s' _ hm) (s _ hv1)
          rw [this]; exact hv1
      · exact ⟨fun hm => absurd (mem_idx.2 ⟨v, hm⟩) (q1 i hp), fun hm => absurd (mem_idx.2 ⟨v, hm⟩) (q2 i hp)⟩
    have e1 := h.val t hlt
    have e2 := h'.val t hlt
    have l1 : t < a.tmps.size := by rw [h.size]; exact hlt
    have l2 : t < a'.tmps.size := by rw [h'.size]; exact hlt
    rw [Array.getElem?_eq_getElem l1, Array.getElem?_eq_getElem l2]
    simp [l1] at e1
    simp [l2] at e2
    rw [e1, e2, e]
  · rw [Array.getElem?_eq_none (by rw [h.size]; exact hge), Array.getElem?_eq_none (by rw [h'.size]; exact hge)]

end
end Go.Proofs.Ytcgbcbdgjhnlaaa
