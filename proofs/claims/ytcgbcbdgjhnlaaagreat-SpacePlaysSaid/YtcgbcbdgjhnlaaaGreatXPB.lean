/- The engine, second part: regions that draw, loops, functions, small laws, cuts. -/
import Derived.Test.YtcgbcbdgjhnlaaaGreatXPA
import Derived.Test.YtcgbcbdgjhnlaaaGreatChecked
import Derived.Below
namespace Go.Proofs.YtcgbcbdgjhnlaaaGreat
open Go.RowKit

/-- Ahead of it in every order. -/
inductive Past (ops : Array Oper) : Nat → Nat → Prop where
  | one {i j : Nat} : i ∈ directs ops j → Past ops i j
  | more {i k j : Nat} : Past ops i k → k ∈ directs ops j → Past ops i j

theorem addNew_mem : ∀ {r l : List Nat} {x : Nat}, x ∈ addNew l r → x ∈ l ∨ x ∈ r
  | [], l, x, h => .inl h
  | j :: r, l, x, h => by
    simp only [addNew] at h
    cases hc : l.contains j <;> simp only [hc, cond_true, cond_false] at h <;> rcases addNew_mem h with h | h
    · rcases List.mem_cons.1 h with rfl | h
      · exact .inr (List.mem_cons_self ..)
      · exact .inl h
    · exact .inr (List.mem_cons_of_mem _ h)
    · exact .inl h
    · exact .inr (List.mem_cons_of_mem _ h)
theorem addPasts_mem {l : List (List Nat)} : ∀ {ds acc : List Nat} {x : Nat}, x ∈ addPasts l acc ds → x ∈ acc ∨ ∃ j ∈ ds, x = j ∨ x ∈ l.getD j []
  | [], acc, x, h => .inl h
  | j :: r, acc, x, h => by
    simp only [addPasts] at h
    rcases addPasts_mem h with h | ⟨i, hi, h⟩
    · rcases addNew_mem h with h | h
      · exact .inl h
      · rcases List.mem_cons.1 h with rfl | h
        · exact .inr ⟨x, List.mem_cons_self .., .inl rfl⟩
        · exact .inr ⟨j, List.mem_cons_self .., .inr h⟩
    · exact .inr ⟨i, List.mem_cons_of_mem _ hi, h⟩
theorem pasts_len (ops : Array Oper) : ∀ n, (pasts ops n).length = n
  | 0 => rfl
  | n + 1 => by simp [pasts, pasts.pastsStep, pasts_len ops n]
theorem pasts_sound (ops : Array Oper) : ∀ (n j : Nat) {x : Nat}, x ∈ (pasts ops n).getD j [] → Past ops x j
  | 0, j, x, h => by simp [pasts] at h
  | n + 1, j, x, h => by
    simp only [pasts, pasts.pastsStep] at h
    rcases Nat.lt_trichotomy j n with hlt | heq | hgt
    · have : (pasts ops n ++ [addPasts (pasts ops n) [] (directs ops n)]).getD j [] = (pasts ops n).getD j [] := by
        simp [List.getD, List.getElem?_append_left (show j < (pasts ops n).length by rw [pasts_len]; exact hlt)]
      rw [this] at h
      exact pasts_sound ops n j h
    · subst heq
      have : (pasts ops j ++ [addPasts (pasts ops j) [] (directs ops j)]).getD j [] = addPasts (pasts ops j) [] (directs ops j) := by
        simp [List.getD, pasts_len]
      rw [this] at h
      rcases addPasts_mem h with h | ⟨i, hi, rfl | h⟩
      · cases h
      · exact .one hi
      · exact .more (pasts_sound ops j i h) hi
    · have : (pasts ops n ++ [addPasts (pasts ops n) [] (directs ops n)]).getD j [] = [] := by
        simp [List.getD, List.getElem?_eq_none (show (pasts ops n ++ [addPasts (pasts ops n) [] (directs ops n)]).length ≤ j by simp [pasts_len]; omega)]
      rw [this] at h; cases h

section
variable {P : Program} {ops : Array Oper}

def YW (P : Program) (ops : Array Oper) (o : Oper) (v : Value) (a : Act) (w : World) : Prop :=
  (Region.wanted o (yielded ops a.tmps) = true ∧ (execOp a.eval o).run P w = .ok (.value v) w) ∨ (Region.wanted o (yielded ops a.tmps) = false ∧ v = undef)
def LoudAt (P : Program) (ops : Array Oper) (o : Oper) (a : Act) (w : World) (R : Value → World → Prop) : Prop :=
  (Region.wanted o (yielded ops a.tmps) = true → OpPost P ((execOp a.eval o).run P w) R) ∧ (Region.wanted o (yielded ops a.tmps) = false → R undef w)

abbrev Pend := List (Nat × Value × Act)
/-- The walk of a tree of orders. -/
def Canon (P : Program) (ops : Array Oper) (Q' : Act → World → Prop) : DT → Pend → Act → World → Prop
  | .nil, _, a, w => Q' a w
  | .op i m r, pend, a, w => ∃ o, ops[i]? = some o ∧ match isQ m.op with
    | true => ∃ v, YW P ops o v a w ∧ Canon P ops Q' r ((i, v, a) :: pend) (a.put o.dst v) w
    | false => LoudAt P ops o a w fun v w' => (∀ p ∈ pend.filter (fun p => !m.past.contains p.1), ∃ oq, ops[p.1]? = some oq ∧ YW P ops oq p.2.1 p.2.2 w') ∧
        Canon P ops Q' r (pend.filter fun p => !m.past.contains p.1) (a.put o.dst v) w'
  | .both x y, pend, a, w => Canon P ops Q' x pend a w ∧ Canon P ops Q' y pend a w
  | .z _, _, _, _ => False

def dstOf (ops : Array Oper) (i : Nat) : Option Nat := (ops[i]?).bind (·.dst)
def slotVal (ops : Array Oper) (a₀ : Act) (E : List (Nat × Value)) (t : Nat) : Value :=
  match E.find? (fun p => dstOf ops p.1 == some t) with
  | some p => p.2
  | none => a₀.tmps.getD t undef
structure RA (ops : Array Oper) (a₀ a : Act) (E : List (Nat × Value)) : Prop where
  defers : a.defers = a₀.defers
  size : a.tmps.size = a₀.tmps.size
  val : ∀ t, t < a₀.tmps.size → a.tmps.getD t undef = slotVal ops a₀ E t

theorem RA.put {a₀ a : Act} {E : List (Nat × Value)} (h : RA ops a₀ a E) {i : Nat} {o : Oper} (hi : ops[i]? = some o) (v : Value) : RA ops a₀ (a.put o.dst v) ((i, v) :: E) := by
  have hd : dstOf ops i = o.dst := by simp [dstOf, hi]
  refine ⟨?_, ?_, fun t ht => ?_⟩
  · cases hh : o.dst <;> simp [Act.put, h.defers]
  · cases hh : o.dst <;> simp [Act.put, h.size]
  · have hv := h.val t ht
    simp only [slotVal, List.find?_cons, hd] at hv ⊢
    cases ho : o.dst with
    | none => simp only [Act.put]; simpa using hv
    | some d =>
      by_cases hdt : d = t
      · subst hdt
        have : d < a.tmps.size := by rw [h.size]; exact ht
        simp [Act.put, this]
      · have h1 : (some d == some t) = false := by simp [hdt]
        simp only [h1, Act.put]
        rw [← hv]
        simp [Array.getElem?_setIfInBounds_ne hdt]

theorem slotVal_eq {a₀ : Act} {E₁ E₂ : List (Nat × Value)} {t : Nat} (hu : ∀ i j, dstOf ops i = some t → dstOf ops j = some t → i = j)
    (n1 : ∀ i v u, (i, v) ∈ E₁ → (i, u) ∈ E₁ → v = u) (h : ∀ i v, dstOf ops i = some t → ((i, v) ∈ E₁ ↔ (i, v) ∈ E₂)) : slotVal ops a₀ E₁ t = slotVal ops a₀ E₂ t := by
  simp only [slotVal]
  cases h1 : E₁.find? (fun p => dstOf ops p.1 == some t) with
  | some p =>
    have hp := List.find?_some h1
    have hm := List.mem_of_find?_eq_some h1
    simp only [beq_iff_eq] at hp
    cases h2 : E₂.find? (fun p => dstOf ops p.1 == some t) with
    | some q =>
      have hq := List.find?_some h2
      have hmq := List.mem_of_find?_eq_some h2
      simp only [beq_iff_eq] at hq
      obtain ⟨i, v⟩ := p
      obtain ⟨j, u⟩ := q
      have hij := hu i j hp hq
      subst hij
      exact n1 i v u hm ((h i u hq).2 hmq)
    | none =>
      have := List.find?_eq_none.1 h2 p ((h p.1 p.2 hp).1 hm)
      simp [hp] at this
  | none =>
    cases h2 : E₂.find? (fun p => dstOf ops p.1 == some t) with
    | some q =>
      have hq := List.find?_some h2
      have hmq := List.mem_of_find?_eq_some h2
      simp only [beq_iff_eq] at hq
      have := List.find?_eq_none.1 h1 q ((h q.1 q.2 hq).2 hmq)
      simp [hq] at this
    | none => rfl

/-- Two frames alike where an operation looks. -/
def Alike (ops : Array Oper) (o : Oper) (a a' : Act) : Prop := ∀ t, t ∈ o.looksAt ops → a.tmps[t]? = a'.tmps[t]?
theorem alike_exec {o : Oper} {a a' : Act} (hs : ∀ cs b, o.op ≠ .select cs b) (h : Alike ops o a a') : execOp a.eval o = execOp a'.eval o := by
  refine execOp_congr o hs fun x hx => ?_
  cases x with
  | tmp t =>
    have : t ∈ o.looksAt ops := List.mem_append_left _ (List.mem_filterMap.2 ⟨.tmp t, by simpa using hx, rfl⟩)
    simp [Act.eval, h t this]
  | _ => rfl
theorem alike_wanted {o : Oper} {a a' : Act} (h : Alike ops o a a') : Region.wanted o (yielded ops a.tmps) = Region.wanted o (yielded ops a'.tmps) := by
  unfold Region.wanted
  cases hg : o.guard with
  | none => rfl
  | some gw =>
    obtain ⟨g, want⟩ := gw
    have : yielded ops a.tmps g = yielded ops a'.tmps g := by
      unfold yielded
      cases ht : (ops[g]?).bind (·.dst) with
      | none => rfl
      | some t =>
        have hm : t ∈ o.looksAt ops := List.mem_append_right _ (by simp [hg, ht])
        simp [h t hm]
    simp only [this]
theorem YW.alike {o : Oper} {v : Value} {a a' : Act} {w : World} (hs : ∀ cs b, o.op ≠ .select cs b) (h : Alike ops o a a') (hy : YW P ops o v a w) : YW P ops o v a' w := by
  unfold YW at *
  rwa [← alike_exec hs h, ← alike_wanted h]
theorem LoudAt.alike {o : Oper} {R : Value → World → Prop} {a a' : Act} {w : World} (hs : ∀ cs b, o.op ≠ .select cs b) (h : Alike ops o a a') (hy : LoudAt P ops o a w R) : LoudAt P ops o a' w R := by
  unfold LoudAt at *
  rwa [← alike_exec hs h, ← alike_wanted h]

theorem YW.wpOp {o : Oper} {i : Nat} {v : Value} {a : Act} {w : World} {K : Act → World → Prop} {Q : Exit → Act → World → Prop} (hi : ops[i]? = some o) (h : YW P ops o v a w) (hk : K (a.put o.dst v) w) : wpOp P ops Q i K a w := by
  unfold Go.wpOp
  simp only [hi]
  rcases h with ⟨hw, hr⟩ | ⟨hw, rfl⟩
  · simp only [hw, if_true, Oper.wp, hr, Oper.upon]; exact .inl hk
  · simp only [hw, Bool.false_eq_true, if_false]; exact hk
theorem LoudAt.wpOp {o : Oper} {i : Nat} {R : Value → World → Prop} {a : Act} {w : World} {K : Act → World → Prop} {Q : Exit → Act → World → Prop} (hi : ops[i]? = some o) (h : LoudAt P ops o a w R) (hk : ∀ v w', R v w' → K (a.put o.dst v) w') : wpOp P ops Q i K a w := by
  unfold Go.wpOp
  simp only [hi]
  cases hw : Region.wanted o (yielded ops a.tmps) with
  | true =>
    rw [if_pos rfl]
    exact .inl (upon_of_post (h.1 hw) hk)
  | false =>
    rw [if_neg Bool.false_ne_true]
    exact hk _ _ (h.2 hw)

structure Good (ops : Array Oper) : Prop where
  lt : ∀ i j, j ∈ directs ops i → i < ops.size → j < i
  uniq : ∀ i j t, dstOf ops i = some t → dstOf ops j = some t → i = j
  look : ∀ i j (o : Oper) t, dstOf ops i = some t → ops[j]? = some o → t ∈ o.looksAt ops → i ≠ j ∧ (Past ops i j ∨ Past ops j i)
  sel : ∀ (j : Nat) (o : Oper) cs b, ops[j]? = some o → o.op ≠ .select cs b

theorem dstOf_lt {i t : Nat} (h : dstOf ops i = some t) : i < ops.size := by
  rcases Nat.lt_or_ge i ops.size with hlt | hge
  · exact hlt
  · simp [dstOf, Array.getElem?_eq_none hge] at h

theorem good_of {ps : List (List Nat)} (hps : ps = pasts ops ops.size) (h1 : directsLt ops = true) (h2 : pairsOk ops ps ops.size = true) (h3 : Region.noSelect ops = true) : Good ops := by
  have pair : ∀ i j oi oj d, ops[i]? = some oi → ops[j]? = some oj → oi.dst = some d → (i = j ∨ oj.dst ≠ some d) ∧ (d ∈ oj.looksAt ops → i ≠ j ∧ (Past ops i j ∨ Past ops j i)) := by
    intro i j oi oj d hi hj hd
    have hil := (Array.getElem?_eq_some_iff.1 hi).1
    have hjl := (Array.getElem?_eq_some_iff.1 hj).1
    simp only [pairsOk, List.all_eq_true, List.mem_range] at h2
    have h := h2 i hil j hjl
    simp only [hi, hj, hd, Bool.and_eq_true, Bool.or_eq_true, Bool.not_eq_true'] at h
    refine ⟨?_, fun hl => ?_⟩
    · rcases h.1 with h | h
      · exact .inl (Nat.eq_of_beq_eq_true h)
      · exact .inr (by simpa using h)
    · rcases h.2 with h | ⟨h4, h5⟩
      · rw [← Bool.not_eq_true] at h
        exact absurd (by simpa using hl) h
      · refine ⟨fun e => (by subst e; rw [Nat.beq_refl] at h4; cases h4), ?_⟩
        subst hps
        rcases h5 with h5 | h5
        · exact .inl (pasts_sound ops _ _ (by simpa using h5))
        · exact .inr (pasts_sound ops _ _ (by simpa using h5))
  refine ⟨fun i j hj hi => ?_, fun i j t hi hj => ?_, fun i j o t hi hj hl => ?_, fun j o cs b hj => Region.noSelect_spec h3 j o cs b hj⟩
  · simp only [directsLt, List.all_eq_true, List.mem_range] at h1
    exact ble_le (a := j + 1) (h1 i hi j hj)
  · simp only [dstOf] at hi hj
    cases hoi : ops[i]? with
    | none => simp [hoi] at hi
    | some oi =>
      cases hoj : ops[j]? with
      | none => simp [hoj] at hj
      | some oj =>
        simp only [hoi, hoj, Option.bind_some] at hi hj
        rcases (pair i j oi oj t hoi hoj hi).1 with h | h
        · exact h
        · exact absurd hj h
  · simp only [dstOf] at hi
    cases hoi : ops[i]? with
    | none => simp [hoi] at hi
    | some oi =>
      simp only [hoi, Option.bind_some] at hi
      exact (pair i j oi o t hoi hj hi).2 hl

def idx (E : List (Nat × Value)) : List Nat := E.map (·.1)
def Closed (ops : Array Oper) (l : List Nat) : Prop := ∀ i ∈ l, ∀ j ∈ directs ops i, j ∈ l
theorem Closed.past {l : List Nat} (h : Closed ops l) {i j : Nat} (hp : Past ops i j) : j ∈ l → i ∈ l := by
  induction hp with
  | one hd => exact fun hj => h _ hj _ hd
  | more _ hd ih => exact fun hj => ih (h _ hj _ hd)
theorem past_of_ready {l : List Nat} (h : Closed ops l) {i j : Nat} (hd : ∀ k ∈ directs ops j, k ∈ l) (hp : Past ops i j) : i ∈ l := by
  cases hp with
  | one hi => exact hd _ hi
  | more hp' hk => exact h.past hp' (hd _ hk)
theorem mem_idx {E : List (Nat × Value)} {i : Nat} : i ∈ idx E ↔ ∃ v, (i, v) ∈ E := by
  simp [idx]
theorem nodup_val : ∀ {E : List (Nat × Value)}, (idx E).Nodup → ∀ i v u, (i, v) ∈ E → (i, u) ∈ E → v = u
  | [], _, i, v, u, h, _ => by cases h
  | (j, x) :: E, hn, i, v, u, h1, h2 => by
    simp only [idx, List.map_cons, List.nodup_cons] at hn
    rcases List.mem_cons.1 h1 with h1 | h1 <;> rcases List.mem_cons.1 h2 with h2 | h2
    · simp only [Prod.mk.injEq] at h1 h2; rw [h1.2, h2.2]
    · simp only [Prod.mk.injEq] at h1; exact absurd (by rw [← h1.1]; exact mem_idx.2 ⟨u, h2⟩) hn.1
    · simp only [Prod.mk.injEq] at h2; exact absurd (by rw [← h2.1]; exact mem_idx.2 ⟨v, h1⟩) hn.1
    · exact nodup_val hn.2 i v u h1 h2

/-- Two frames are alike where an operation looks, if all that is ahead of it has been carried out in both, with one result, and nothing that is behind it in either. -/
theorem alike_of {a₀ a a' : Act} {E E' F : List (Nat × Value)} (g : Good ops) (h : RA ops a₀ a E) (h' : RA ops a₀ a' E') (hF : (idx F).Nodup) (s : ∀ p ∈ E, p ∈ F) (s' : ∀ p ∈ E', p ∈ F) {j : Nat} {o : Oper} (hj : ops[j]? = some o)
    (p1 : ∀ i, Past ops i j → i ∈ idx E) (p2 : ∀ i, Past ops i j → i ∈ idx E') (q1 : ∀ i, Past ops j i → i ∉ idx E) (q2 : ∀ i, Past ops j i → i ∉ idx E') : Alike ops o a a' := by
  intro t ht
  have hval := nodup_val hF
  rcases Nat.lt_or_ge t a₀.tmps.size with hlt | hge
  · have e : slotVal ops a₀ E t = slotVal ops a₀ E' t := by
      refine slotVal_eq (fun i k hi hk => g.uniq i k t hi hk) (fun i v u hv hu => hval i v u (s _ hv) (s _ hu)) fun i v hi => ?_
      obtain ⟨hne, hp | hp⟩ := g.look i j o t hi hj ht
      · obtain ⟨v1, hv1⟩ := mem_idx.1 (p1 i hp)
        obtain ⟨v2, hv2⟩ := mem_idx.1 (p2 i hp)
        constructor
        · intro hm
          have := hval i v v2 (s _ hm) (s' _ hv2)
          rw [this]; exact hv2
        · intro hm
          have := hval i v v1 (s' _ hm) (s _ hv1)
          rw [this]; exact hv1
      · exact ⟨fun hm => absurd (mem_idx.2 ⟨v, hm⟩) (q1 i hp), fun hm => absurd (mem_idx.2 ⟨v, hm⟩) (q2 i hp)⟩
    have e1 := h.val t hlt
    have e2 := h'.val t hlt
    have l1 : t < a.tmps.size := by rw [h.size]; exact hlt
    have l2 : t < a'.tmps.size := by rw [h'.size]; exact hlt
    rw [Array.getElem?_eq_getElem l1, Array.getElem?_eq_getElem l2]
    simp [l1] at e1
    simp [l2] at e2
    rw [e1, e2, e]
  · rw [Array.getElem?_eq_none (by rw [h.size]; exact hge), Array.getElem?_eq_none (by rw [h'.size]; exact hge)]

end
end Go.Proofs.YtcgbcbdgjhnlaaaGreat

namespace Go.Proofs.YtcgbcbdgjhnlaaaGreat
open Go.RowKit

section
variable {P : Program} {N : Nat} {ops : Array Oper} {ps : List (List Nat)}

theorem joinD_some : ∀ {l : List (Option DT)} {t : DT}, joinD l = some t → ∀ x ∈ l, ∃ t', x = some t'
  | [], t, h, x, hx => by cases hx
  | [y], t, h, x, hx => by
    rcases List.mem_cons.1 hx with rfl | hx
    · exact ⟨t, h⟩
    · cases hx
  | y :: z :: r, t, h, x, hx => by
    simp only [joinD] at h
    split at h
    · rename_i a b h2
      rcases List.mem_cons.1 hx with rfl | hx
      · exact ⟨a, rfl⟩
      · exact joinD_some h2 x hx
    · cases h
theorem joinD_canon {Q' : Act → World → Prop} {pend : Pend} {a : Act} {w : World} : ∀ {l : List (Option DT)} {t : DT}, joinD l = some t → Canon P ops Q' t pend a w → ∀ t', some t' ∈ l → Canon P ops Q' t' pend a w
  | [], t, h, _, t', hx => by cases hx
  | [y], t, h, hc, t', hx => by
    rcases List.mem_cons.1 hx with e | hx
    · simp only [joinD] at h; rw [← e] at h; simp only [Option.some.injEq] at h; rw [h]; exact hc
    · cases hx
  | y :: z :: r, t, h, hc, t', hx => by
    simp only [joinD] at h
    split at h
    · rename_i p q h1 h2
      simp only [Option.some.injEq] at h
      subst h
      rcases List.mem_cons.1 hx with e | hx
      · simp only [Option.some.injEq] at e; subst e; exact hc.1
      · exact joinD_canon h2 hc.2 t' hx
    · cases h

theorem ready1_iff {before : List Nat} {i : Nat} : ready1 ops before i = true ↔ i ∉ before ∧ ∀ j ∈ directs ops i, j ∈ before := by
  simp [ready1, List.all_eq_true]

theorem resDI_spec {i : Nat} {m : MI} (h : resDI P N ops ps i = some m) : ∃ o past, ops[i]? = some o ∧ resMI P N ops o past = some m ∧ m.op = resOp P o ∧ (isQ m.op = false → ∀ q ∈ m.past, q ∈ ps.getD i []) := by
  unfold resDI at h
  split at h
  · rename_i o ho
    obtain ⟨_, h2, h3, _⟩ := resMI_spec h
    refine ⟨o, _, ho, h, h2, fun hq q hm => ?_⟩
    rw [h2] at hq
    rw [h3, hq] at hm
    simp only [cond_false] at hm
    exact (List.mem_filter.1 hm).1
  · cases h

/-- What the tree says at its root. -/
theorem dtree_cases {k : Nat} {before : List Nat} {t : DT} (h : dtree P N ops ps (k + 1) before = some t) :
    (∃ i m r, i < ops.size ∧ ready1 ops before i = true ∧ isQat P ops i = true ∧ resDI P N ops ps i = some m ∧ dtree P N ops ps k (i :: before) = some r ∧ t = .op i m r) ∨
    ((∀ i, i < ops.size → ready1 ops before i = true → isQat P ops i = false) ∧
      joinD (((List.range ops.size).filter (ready1 ops before)).map fun i => match resDI P N ops ps i, dtree P N ops ps k (i :: before) with
      | some m, some r => some (.op i m r)
      | _, _ => none) = some t) := by
  simp only [dtree] at h
  split at h
  · rename_i i hf
    have h1 := List.find?_some hf
    have h2 := List.mem_range.1 (List.mem_of_find?_eq_some hf)
    simp only [Bool.and_eq_true] at h1
    split at h
    · rename_i m r hm hr
      simp only [Option.some.injEq] at h
      exact .inl ⟨i, m, r, h2, h1.1, h1.2, hm, hr, h.symm⟩
    · cases h
  · rename_i hf
    refine .inr ⟨fun i hi hr => ?_, h⟩
    have := List.find?_eq_none.1 hf i (List.mem_range.2 hi)
    simp only [hr, Bool.true_and, Bool.not_eq_true] at this
    exact this

theorem isQat_op {i : Nat} {m : MI} (h : resDI P N ops ps i = some m) : isQat P ops i = isQ m.op := by
  obtain ⟨o, past, ho, _, hop, _⟩ := resDI_spec h
  simp [isQat, ho, hop]

/-- What the walk has in hand: all that has been carried out, by the walk (E), by the order that was drawn (D). -/
structure Sim (P : Program) (ops : Array Oper) (a₀ : Act) (E D : List (Nat × Value)) (pend : Pend) (ac a : Act) (listed : Array Bool) (w : World) : Prop where
  ra : RA ops a₀ a D
  rc : RA ops a₀ ac E
  sub : ∀ p ∈ D, p ∈ E
  ne : (idx E).Nodup
  nd : (idx D).Nodup
  lsz : listed.size = ops.size
  lis : ∀ i, i < ops.size → (listed[i]? = some true ↔ i ∈ idx D)
  bd : ∀ i ∈ idx E, i < ops.size
  clE : Closed ops (idx E)
  clD : Closed ops (idx D)
  hold : ∀ i v, (i, v) ∈ E → i ∉ idx D → ∃ aq F o, ops[i]? = some o ∧ (i, v, aq) ∈ pend ∧ YW P ops o v aq w ∧ RA ops a₀ aq F ∧ (∀ p ∈ F, p ∈ E) ∧ (∀ j, Past ops j i → j ∈ idx F) ∧ (∀ j, Past ops i j → j ∉ idx F)

/-- The walk takes all that only reads and may come. -/
theorem saturate (g : Good ops) {Q' : Act → World → Prop} {a₀ a : Act} {D : List (Nat × Value)} {listed : Array Bool} {w : World} : ∀ (k : Nat) {E : List (Nat × Value)} {pend : Pend} {ac : Act} {t : DT},
    Sim P ops a₀ E D pend ac a listed w → dtree P N ops ps k (idx E) = some t → Canon P ops Q' t pend ac w →
    ∃ (k' : Nat) (E' : List (Nat × Value)) (pend' : Pend) (ac' : Act) (t' : DT), Sim P ops a₀ E' D pend' ac' a listed w ∧ dtree P N ops ps k' (idx E') = some t' ∧ Canon P ops Q' t' pend' ac' w ∧
      (∀ i, i < ops.size → ready1 ops (idx E') i = true → isQat P ops i = false)
  | 0, E, pend, ac, t, hs, ht, hc => by
    refine ⟨0, E, pend, ac, t, hs, ht, hc, fun i hi hr => ?_⟩
    simp only [dtree] at ht
    obtain ⟨hb, _⟩ := bif_some ht
    simp only [List.all_eq_true, List.mem_range] at hb
    have h1 := hb i hi
    have h2 := (ready1_iff.1 hr).1
    simp at h1
    exact absurd h1 h2
  | k + 1, E, pend, ac, t, hs, ht, hc => by
    rcases dtree_cases ht with ⟨i, m, r, hi, hr, hq, hm, hr', rfl⟩ | ⟨hno, hj⟩
    · obtain ⟨o, ho, hv⟩ := hc
      have hqm : isQ m.op = true := by rw [← isQat_op hm]; exact hq
      simp only [hqm] at hv
      obtain ⟨v, hy, hc'⟩ := hv
      obtain ⟨hn, hd⟩ := ready1_iff.1 hr
      refine saturate g k (E := (i, v) :: E) ⟨hs.ra, hs.rc.put ho v, fun p hp => List.mem_cons_of_mem _ (hs.sub p hp), ?_, hs.nd, hs.lsz, hs.lis, ?_, ?_, hs.clD, ?_⟩ hr' hc'
      · simp only [idx, List.map_cons, List.nodup_cons]; exact ⟨hn, hs.ne⟩
      · intro j hj
        rcases List.mem_cons.1 hj with rfl | hj
        · exact hi
        · exact hs.bd j hj
      · intro j hj x hx
        rcases List.mem_cons.1 hj with rfl | hj
        · exact List.mem_cons_of_mem _ (hd x hx)
        · exact List.mem_cons_of_mem _ (hs.clE j hj x hx)
      · intro j u hju hjD
        rcases List.mem_cons.1 hju with e | hju
        · simp only [Prod.mk.injEq] at e
          obtain ⟨rfl, rfl⟩ := e
          exact ⟨ac, E, o, ho, List.mem_cons_self .., hy, hs.rc, fun p hp => List.mem_cons_of_mem _ hp, fun x hx => past_of_ready hs.clE hd hx, fun x hx hxE => hn (hs.clE.past hx hxE)⟩
        · obtain ⟨aq, F, oq, h1, h2, h3, h4, h5, h6, h7⟩ := hs.hold j u hju hjD
          exact ⟨aq, F, oq, h1, List.mem_cons_of_mem _ h2, h3, h4, fun p hp => List.mem_cons_of_mem _ (h5 p hp), h6, h7⟩
    · exact ⟨k + 1, E, pend, ac, t, hs, ht, hc, hno⟩

theorem listed_get {listed : Array Bool} {i : Nat} (hi : i < listed.size) (d : Bool) : listed.getD i d = true ↔ listed[i]? = some true := by
  simp [hi]

theorem any_of_canon (g : Good ops) (hps : ∀ i j, j ∈ ps.getD i [] → Past ops j i) {Q : Exit → Act → World → Prop} {a₀ : Act} : ∀ (fuel : Nat) {k : Nat} {E D : List (Nat × Value)} {pend : Pend} {ac a : Act} {listed : Array Bool} {w : World} {t : DT},
    fuel + D.length = ops.size → Sim P ops a₀ E D pend ac a listed w → dtree P N ops ps k (idx E) = some t → Canon P ops (Q .normal) t pend ac w →
    (∀ i, i < ops.size → ready1 ops (idx E) i = true → isQat P ops i = false) → wpAny P .any ops Q fuel listed a w := by
  have mdir : ∀ {j : Nat} {o : Oper} {x : Nat}, ops[j]? = some o → (x ∈ directs ops j ↔ ∃ e ∈ o.after, Region.binds .any e = true ∧ e.on = x) := by
    intro j o x ho
    simp only [directs, ho, List.mem_filterMap]
    constructor
    · rintro ⟨e, he, h⟩
      cases hb : Region.binds .any e <;> simp only [hb, cond_true, cond_false, reduceCtorEq, Option.some.injEq] at h
      exact ⟨e, Array.mem_toList_iff.1 he, hb, h⟩
    · rintro ⟨e, he, hb, rfl⟩
      exact ⟨e, Array.mem_toList_iff.2 he, by simp [hb]⟩
  have rdy : ∀ {E D : List (Nat × Value)} {pend : Pend} {ac a : Act} {listed : Array Bool} {w : World}, Sim P ops a₀ E D pend ac a listed w → ∀ j, (j ∈ Region.ready .any ops listed ↔ j < ops.size ∧ j ∉ idx D ∧ ∀ x ∈ directs ops j, x ∈ idx D) := by
    intro E D pend ac a listed w hs j
    rw [mem_ready]
    constructor
    · rintro ⟨h0, o, ho, hall⟩
      have hj := (Array.getElem?_eq_some_iff.1 ho).1
      refine ⟨hj, fun hD => ?_, fun x hx => ?_⟩
      · have := (hs.lis j hj).2 hD
        rw [(listed_get (by rw [hs.lsz]; exact hj) true).2 this] at h0
        cases h0
      · obtain ⟨e, he, hb, rfl⟩ := (mdir ho).1 hx
        have hlt := g.lt j e.on hx hj
        have := hall e he hb
        exact (hs.lis e.on (by omega)).1 ((listed_get (by rw [hs.lsz]; omega) false).1 this)
    · rintro ⟨hj, hD, hd⟩
      have ho := Array.getElem?_eq_getElem hj
      refine ⟨?_, _, ho, fun e he hb => ?_⟩
      · cases h : listed.getD j true with
        | false => rfl
        | true => exact absurd ((hs.lis j hj).1 ((listed_get (by rw [hs.lsz]; exact hj) true).1 h)) hD
      · have hx := (mdir ho).2 ⟨e, he, hb, rfl⟩
        have hlt := g.lt j e.on hx hj
        exact (listed_get (by rw [hs.lsz]; omega) false).2 ((hs.lis e.on (by omega)).2 (hd _ hx))
  -- all have come up: the two frames are one
  have done : ∀ {k : Nat} {E D : List (Nat × Value)} {pend : Pend} {ac a : Act} {listed : Array Bool} {w : World} {t : DT}, Sim P ops a₀ E D pend ac a listed w → dtree P N ops ps k (idx E) = some t → Canon P ops (Q .normal) t pend ac w →
      (∀ j, j < ops.size → j ∈ idx D) → Q .normal a w := by
    intro k E D pend ac a listed w t hs ht hc hall
    have hE : ∀ j, j < ops.size → j ∈ idx E := fun j hj => by
      obtain ⟨v, hv⟩ := mem_idx.1 (hall j hj); exact mem_idx.2 ⟨v, hs.sub _ hv⟩
    have hnil : Canon P ops (Q .normal) .nil pend ac w := by
      cases k with
      | zero =>
        simp only [dtree] at ht
        obtain ⟨_, h⟩ := bif_some ht
        simp only [Option.some.injEq] at h
        subst h; exact hc
      | succ k =>
        exfalso
        rcases dtree_cases ht with ⟨i, m, r, hi, hr, _⟩ | ⟨_, hj⟩
        · exact (ready1_iff.1 hr).1 (hE i hi)
        · have : (List.range ops.size).filter (ready1 ops (idx E)) = [] := by
            rw [List.filter_eq_nil_iff]
            intro i hi hr
            exact (ready1_iff.1 hr).1 (hE i (List.mem_range.1 hi))
          rw [this] at hj
          simp [joinD] at hj
    have hEq : ac = a := by
      have e : ac.tmps = a.tmps := by
        apply Array.ext
        · rw [hs.rc.size, hs.ra.size]
        · intro t h1 h2
          have ht' : t < a₀.tmps.size := by rw [← hs.rc.size]; exact h1
          have v1 := hs.rc.val t ht'
          have v2 := hs.ra.val t ht'
          have : slotVal ops a₀ E t = slotVal ops a₀ D t := by
            refine slotVal_eq (fun i j hi hj => g.uniq i j t hi hj) (nodup_val hs.ne) fun i v hi => ⟨fun hm => ?_, fun hm => hs.sub _ hm⟩
            obtain ⟨u, hu⟩ := mem_idx.1 (hall i (dstOf_lt hi))
            rw [nodup_val hs.ne i v u hm (hs.sub _ hu)]; exact hu
          simp [h1] at v1
          simp [h2] at v2
          rw [v1, v2, this]
      have d : ac.defers = a.defers := by rw [hs.rc.defers, hs.ra.defers]
      cases ac; cases a; simp only at e d; subst e; subst d; (first | done | rfl)
    rw [← hEq]; exact hnil
  have full : ∀ {E D : List (Nat × Value)} {pend : Pend} {ac a : Act} {listed : Array Bool} {w : World}, Sim P ops a₀ E D pend ac a listed w → Region.ready .any ops listed = [] → ∀ j, j < ops.size → j ∈ idx D := by
    intro E D pend ac a listed w hs hr j
    induction j using Nat.strongRecOn with
    | _ j ih =>
      intro hj
      refine Decidable.byContradiction fun hn => ?_
      have : j ∈ Region.ready .any ops listed := (rdy hs j).2 ⟨hj, hn, fun x hx => ih x (g.lt j x hx hj) (by have := g.lt j x hx hj; omega)⟩
      rw [hr] at this; cases this
  intro fuel
  induction fuel with
  | zero =>
    intro k E D pend ac a listed w t hf hs ht hc _
    have hall : ∀ j, j < ops.size → j ∈ idx D := by
      intro j hj
      have hsub : ∀ i ∈ idx D, i ∈ List.range ops.size := fun i hi => by
        obtain ⟨v, hv⟩ := mem_idx.1 hi
        exact List.mem_range.2 (hs.bd i (mem_idx.2 ⟨v, hs.sub _ hv⟩))
      refine Decidable.byContradiction fun hn => ?_
      have h1 : (idx D).length ≤ ((List.range ops.size).erase j).length := by
        refine List.Nodup.length_le_of_subset hs.nd fun i hi => ?_
        refine (List.mem_erase_of_ne fun e => ?_).2 (hsub i hi)
        subst e; exact hn hi
      rw [List.length_erase_of_mem (List.mem_range.2 hj), List.length_range] at h1
      simp only [idx, List.length_map] at h1
      omega
    refine ⟨?_, done hs ht hc hall⟩
    cases hr : Region.ready .any ops listed with
    | nil => rfl
    | cons j l =>
      have := (rdy hs j).1 (by rw [hr]; exact List.mem_cons_self ..)
      exact absurd (hall j this.1) this.2.1
  | succ fuel ih =>
    intro k E D pend ac a listed w t hf hs ht hc hsat
    refine ⟨fun hr => done hs ht hc (full hs hr), fun j hj => ?_⟩
    obtain ⟨hjs, hjD, hd⟩ := (rdy hs j).1 hj
    have lis' : ∀ (v : Value) i, i < ops.size → ((listed.setIfInBounds j true)[i]? = some true ↔ i ∈ idx ((j, v) :: D)) := by
      intro v i hi
      by_cases hij : i = j
      · subst hij
        simp [hs.lsz, hjs, idx]
      · rw [Array.getElem?_setIfInBounds_ne (Ne.symm hij), hs.lis i hi]
        simp only [idx, List.map_cons, List.mem_cons]
        exact ⟨.inr, fun h => h.resolve_left hij⟩
    have clD' : ∀ v, Closed ops (idx ((j, v) :: D)) := by
      intro v i hi x hx
      rcases List.mem_cons.1 hi with rfl | hi
      · exact List.mem_cons_of_mem _ (hd x hx)
      · exact List.mem_cons_of_mem _ (hs.clD i hi x hx)
    have noD : ∀ i, Past ops j i → i ∉ idx D := fun i hp hi => hjD (hs.clD.past hp hi)
    have inD : ∀ i, Past ops i j → i ∈ idx D := fun i hp => past_of_ready hs.clD hd hp
    have ndD : ∀ v, (idx ((j, v) :: D)).Nodup := fun v => by simp only [idx, List.map_cons, List.nodup_cons]; exact ⟨hjD, hs.nd⟩
    by_cases hjE : j ∈ idx E
    · -- it only reads, and the walk has taken it
      obtain ⟨v, hv⟩ := mem_idx.1 hjE
      obtain ⟨aq, F, o, ho, _, hy, hF, hFE, hp1, hp2⟩ := hs.hold j v hv hjD
      have hal : Alike ops o aq a := alike_of g hF hs.ra hs.ne hFE hs.sub ho hp1 inD hp2 noD
      refine YW.wpOp ho (hy.alike (fun cs b => g.sel j o cs b ho) hal) ?_
      refine ih (by simp only [List.length_cons]; omega) (D := (j, v) :: D) ⟨hs.ra.put ho v, hs.rc, fun p hp => ?_, hs.ne, ndD v, by simp [hs.lsz], lis' v, hs.bd, hs.clE, clD' v, fun i u hiu hiD => ?_⟩ ht hc hsat
      · rcases List.mem_cons.1 hp with rfl | hp
        · exact hv
        · exact hs.sub p hp
      · exact hs.hold i u hiu fun h => hiD (List.mem_cons_of_mem _ h)
    · -- the walk stands before it
      have hdE : ∀ x ∈ directs ops j, x ∈ idx E := fun x hx => by
        obtain ⟨u, hu⟩ := mem_idx.1 (hd x hx); exact mem_idx.2 ⟨u, hs.sub _ hu⟩
      have hrj : ready1 ops (idx E) j = true := ready1_iff.2 ⟨hjE, hdE⟩
      have hqj := hsat j hjs hrj
      cases k with
      | zero =>
        simp only [dtree] at ht
        obtain ⟨hb, _⟩ := bif_some ht
        simp only [List.all_eq_true, List.mem_range] at hb
        have := hb j hjs
        simp at this
        exact absurd this hjE
      | succ k =>
        rcases dtree_cases ht with ⟨i, m, r, hi, hr, hq, _⟩ | ⟨_, hjoin⟩
        · rw [hsat i hi hr] at hq; cases hq
        · have hmem : (match resDI P N ops ps j, dtree P N ops ps k (j :: idx E) with | some m, some r => some (DT.op j m r) | _, _ => none) ∈
              (((List.range ops.size).filter (ready1 ops (idx E))).map fun i => match resDI P N ops ps i, dtree P N ops ps k (i :: idx E) with | some m, some r => some (DT.op i m r) | _, _ => none) :=
            List.mem_map.2 ⟨j, List.mem_filter.2 ⟨List.mem_range.2 hjs, hrj⟩, rfl⟩
          obtain ⟨t', ht'⟩ := joinD_some hjoin _ hmem
          rw [ht'] at hmem
          have hc' := joinD_canon hjoin hc t' hmem
          split at ht'
          · rename_i m r hm hr
            simp only [Option.some.injEq] at ht'
            subst ht'
            obtain ⟨o, ho, hv⟩ := hc'
            have hqm : isQ m.op = false := by rw [← isQat_op hm]; exact hqj
            simp only [hqm] at hv
            obtain ⟨_, _, _, _, _, hpast⟩ := resDI_spec hm
            have hal : Alike ops o ac a := alike_of g hs.rc hs.ra hs.ne (fun p hp => hp) hs.sub ho (fun i hp => past_of_ready hs.clE hdE hp) inD (fun i hp hi => hjE (hs.clE.past hp hi)) noD
            refine LoudAt.wpOp ho (LoudAt.alike (fun cs b => g.sel j o cs b ho) hal hv) fun v w' ⟨hpend, hc2⟩ => ?_
            have hs' : Sim P ops a₀ ((j, v) :: E) ((j, v) :: D) (pend.filter fun p => !m.past.contains p.1) (ac.put o.dst v) (a.put o.dst v) (listed.setIfInBounds j true) w' := by
              refine ⟨hs.ra.put ho v, hs.rc.put ho v, fun p hp => ?_, ?_, ndD v, by simp [hs.lsz], lis' v, ?_, ?_, clD' v, fun i u hiu hiD => ?_⟩
              · rcases List.mem_cons.1 hp with rfl | hp
                · exact List.mem_cons_self ..
                · exact List.mem_cons_of_mem _ (hs.sub p hp)
              · simp only [idx, List.map_cons, List.nodup_cons]; exact ⟨hjE, hs.ne⟩
              · intro i hi
                rcases List.mem_cons.1 hi with rfl | hi
                · exact hjs
                · exact hs.bd i hi
              · intro i hi x hx
                rcases List.mem_cons.1 hi with rfl | hi
                · exact List.mem_cons_of_mem _ (hdE x hx)
                · exact List.mem_cons_of_mem _ (hs.clE i hi x hx)
              · rcases List.mem_cons.1 hiu with e | hiu
                · simp only [Prod.mk.injEq] at e
                  exact absurd (by rw [e.1]; exact List.mem_cons_self ..) hiD
                · have hiD' : i ∉ idx D := fun h => hiD (List.mem_cons_of_mem _ h)
                  obtain ⟨aq, F, oq, h1, h2, h3, h4, h5, h6, h7⟩ := hs.hold i u hiu hiD'
                  have hnp : m.past.contains i = false := by
                    cases hcn : m.past.contains i with
                    | false => rfl
                    | true =>
                      have : i ∈ ps.getD j [] := hpast hqm i (by simpa using hcn)
                      exact absurd (inD i (hps j i this)) hiD'
                  have hin : (i, u, aq) ∈ pend.filter fun p => !m.past.contains p.1 := List.mem_filter.2 ⟨h2, by show (!m.past.contains i) = true; rw [hnp]; (first | done | rfl)⟩
                  obtain ⟨oq', hoq', hy'⟩ := hpend _ hin
                  have : oq' = oq := by simp only [h1, Option.some.injEq] at hoq'; exact hoq'.symm
                  subst this
                  exact ⟨aq, F, oq', h1, hin, hy', h4, fun p hp => List.mem_cons_of_mem _ (h5 p hp), h6, h7⟩
            obtain ⟨k', E', pend', ac', t', s1, s2, s3, s4⟩ := saturate g k hs' hr hc2
            exact ih (by simp only [List.length_cons]; omega) s1 s2 s3 s4
          · cases ht'

end
end Go.Proofs.YtcgbcbdgjhnlaaaGreat

namespace Go.Proofs.YtcgbcbdgjhnlaaaGreat
open Go.RowKit

section
variable {P : Program} {B : Base} {N : Nat} {ops : Array Oper} {ps : List (List Nat)}

def TreeIs (P : Program) (N : Nat) (ops : Array Oper) (ps : List (List Nat)) : DT → Prop
  | .nil => True
  | .op i m r => resDI P N ops ps i = some m ∧ TreeIs P N ops ps r
  | .both a b => TreeIs P N ops ps a ∧ TreeIs P N ops ps b
  | .z _ => False

theorem joinD_is : ∀ {l : List (Option DT)} {t : DT}, joinD l = some t → (∀ t', some t' ∈ l → TreeIs P N ops ps t') → TreeIs P N ops ps t
  | [], t, h, _ => by cases h
  | [y], t, h, hl => hl t (by simp only [joinD] at h; rw [h]; exact List.mem_cons_self ..)
  | y :: z :: r, t, h, hl => by
    simp only [joinD] at h
    split at h
    · rename_i p q h2
      simp only [Option.some.injEq] at h
      subst h
      exact ⟨hl p (List.mem_cons_self ..), joinD_is h2 fun t' ht => hl t' (List.mem_cons_of_mem _ ht)⟩
    · cases h
theorem dtree_is : ∀ (k : Nat) {before : List Nat} {t : DT}, dtree P N ops ps k before = some t → TreeIs P N ops ps t
  | 0, before, t, h => by
    simp only [dtree] at h
    obtain ⟨_, h⟩ := bif_some h
    simp only [Option.some.injEq] at h
    subst h; trivial
  | k + 1, before, t, h => by
    rcases dtree_cases h with ⟨i, m, r, _, _, _, hm, hr, rfl⟩ | ⟨_, hj⟩
    · exact ⟨hm, dtree_is k hr⟩
    · refine joinD_is hj fun t' ht => ?_
      obtain ⟨i, _, hi⟩ := List.mem_map.1 ht
      split at hi
      · rename_i m r hm hr
        simp only [Option.some.injEq] at hi
        subst hi
        exact ⟨hm, dtree_is k hr⟩
      · cases hi

theorem protOf_mem {m : MI} : ∀ {gp : List (Nat × List Nat)} {q : Nat} {ks : List Nat}, (q, ks) ∈ gp → m.past.contains q = false → ∀ k ∈ ks, k ∈ protOf m gp
  | [], q, ks, h, _, k, _ => by cases h
  | (i, js) :: r, q, ks, h, hp, k, hk => by
    simp only [protOf]
    rcases List.mem_cons.1 h with e | h
    · simp only [Prod.mk.injEq] at e
      obtain ⟨rfl, rfl⟩ := e
      rw [hp]
      exact List.mem_append_left _ hk
    · cases m.past.contains i
      · exact List.mem_append_right _ (protOf_mem h hp k hk)
      · exact protOf_mem h hp k hk
theorem protOf_sub {m : MI} : ∀ {gp : List (Nat × List Nat)} {k : Nat}, k ∈ protOf m gp → ∃ q ks, (q, ks) ∈ gp ∧ k ∈ ks
  | [], k, h => by cases h
  | (i, js) :: r, k, h => by
    simp only [protOf] at h
    cases hc : m.past.contains i <;> rw [hc] at h
    · rcases List.mem_append.1 h with h | h
      · exact ⟨i, js, List.mem_cons_self .., h⟩
      · obtain ⟨q, ks, h1, h2⟩ := protOf_sub h
        exact ⟨q, ks, List.mem_cons_of_mem _ h1, h2⟩
    · obtain ⟨q, ks, h1, h2⟩ := protOf_sub h
      exact ⟨q, ks, List.mem_cons_of_mem _ h1, h2⟩

def PendOK (P : Program) (B : Base) (ops : Array Oper) (gp : List (Nat × List Nat)) (sp : Pend) (S : GS) (ρ : Nat → Nat) : Prop :=
  ∀ p ∈ sp, ∃ ks oq, (p.1, ks) ∈ gp ∧ ops[p.1]? = some oq ∧ ∀ (S' : GS) (ρ' : Nat → Nat) (w' : World), St B ρ' S' w' → S.W.Le S'.W → S.σ.length ≤ S'.σ.length → (∀ k, k < S.σ.length → ρ' k = ρ k) →
    Held ks S S' → YW P ops oq p.2.1 p.2.2 w'

theorem depOf_lt {m : M} {f : Fr} {n : Nat} (hlt : ∀ i, (f i).lt n) : ∀ k, k + 1 ∈ depOf m f → k < n := by
  intro k hk
  cases m <;> simp only [depOf] at hk <;> try (cases hk; done)
  case b2s x => simp at hk
  all_goals
    rename_i x
    split at hk
    · rename_i j o hx
      have := evG_lt hlt x
      rw [hx] at this
      simp only [List.mem_singleton, Nat.add_right_cancel_iff] at hk
      subst hk; exact this
    · simp at hk
    · cases hk

theorem canon_of_vc {K : Fr → GS → Prop} : ∀ {t : DT} {gp : List (Nat × List Nat)} {sp : Pend} {f : Fr} {S : GS} {ρ : Nat → Nat} {a : Act} {w : World} {S₀ : GS}, TreeIs P N ops ps t → vcD P B gp f S K t → Rel N ρ f S.σ.length a → St B ρ S w →
    S₀.W.Le S.W → S₀.σ.length ≤ S.σ.length → (∀ q ks, (q, ks) ∈ gp → ∀ k, k + 1 ∈ ks → k < S.σ.length) → PendOK P B ops gp sp S ρ →
    Canon P ops (fun a w => ∃ f S ρ, S₀.W.Le S.W ∧ S₀.σ.length ≤ S.σ.length ∧ Rel N ρ f S.σ.length a ∧ St B ρ S w ∧ K f S) t sp a w
  | .nil, gp, sp, f, S, ρ, a, w, S₀, _, hv, hrel, hst, hl, hn, _, _ => ⟨f, S, ρ, hl, hn, hrel, hst, hv⟩
  | .both x y, gp, sp, f, S, ρ, a, w, S₀, ht, hv, hrel, hst, hl, hn, hg, hp => ⟨canon_of_vc ht.1 hv.1 hrel hst hl hn hg hp, canon_of_vc ht.2 hv.2 hrel hst hl hn hg hp⟩
  | .z _, _, _, _, _, _, _, _, _, ht, _, _, _, _, _, _, _ => ht.elim
  | .op i m r, gp, sp, f, S, ρ, a, w, S₀, ht, hv, hrel, hst, hl, hn, hg, hp => by
    obtain ⟨o, past, ho, hres, hop, _⟩ := resDI_spec ht.1
    refine ⟨o, ho, ?_⟩
    simp only [vcD] at hv
    cases hq : isQ m.op with
    | true =>
      simp only [hq] at hv ⊢
      obtain ⟨hdst, _, _, hd, hgd⟩ := resMI_spec hres
      have go : ∀ (v : Value) (g : GV), v = g.real ρ → g.lt S.σ.length → YW P ops o v a w →
          (∀ (S' : GS) (ρ' : Nat → Nat) (w' : World), St B ρ' S' w' → S.W.Le S'.W → S.σ.length ≤ S'.σ.length → (∀ k, k < S.σ.length → ρ' k = ρ k) → Held (depOf m.op f) S S' → YW P ops o v a w') →
          vcD P B ((i, depOf m.op f) :: gp) (putF f m.dst g) S K r →
          ∃ v, YW P ops o v a w ∧ Canon P ops (fun a w => ∃ f S ρ, S₀.W.Le S.W ∧ S₀.σ.length ≤ S.σ.length ∧ Rel N ρ f S.σ.length a ∧ St B ρ S w ∧ K f S) r ((i, v, a) :: sp) (a.put o.dst v) w := by
        intro v g hvg hglt hy hstay hk
        rw [hdst] at hk
        refine ⟨v, hy, canon_of_vc ht.2 hk ?_ hst hl hn ?_ ?_⟩
        · rw [hvg]; exact hrel.put hd hglt
        · intro q ks hm k hkk
          rcases List.mem_cons.1 hm with e | hm
          · simp only [Prod.mk.injEq] at e
            rw [e.2] at hkk
            exact depOf_lt hrel.lt k hkk
          · exact hg q ks hm k hkk
        · intro p hpm
          rcases List.mem_cons.1 hpm with rfl | hpm
          · exact ⟨_, o, List.mem_cons_self .., ho, hstay⟩
          · obtain ⟨ks, oq, h1, h2, h3⟩ := hp p hpm
            exact ⟨ks, oq, List.mem_cons_of_mem _ h1, h2, h3⟩
      have yes : Region.wanted o (yielded ops a.tmps) = true → (vcOp P B m.op f [] S fun g S' => vcD P B ((i, depOf m.op f) :: gp) (putF f m.dst g) S' K r) →
          ∃ v, YW P ops o v a w ∧ Canon P ops (fun a w => ∃ f S ρ, S₀.W.Le S.W ∧ S₀.σ.length ≤ S.σ.length ∧ Rel N ρ f S.σ.length a ∧ St B ρ S w ∧ K f S) r ((i, v, a) :: sp) (a.put o.dst v) w := by
        intro hw hvc
        obtain ⟨g, hK, hqk⟩ := vcOp_quiet (o := o) hop.symm hq hvc hrel.lt hst.cells
        refine go (g.real ρ) g rfl hqk.lt (.inl ⟨hw, hqk.run ρ S w a.eval hst (PW.Le.refl _) (Held.refl _ _) (fun x _ => hrel.eval x)⟩) (fun S' ρ' w' h1 h2 h3 h4 h5 => .inl ⟨hw, ?_⟩) hK
        rw [← GV.real_congr h4 hqk.lt]
        exact hqk.run ρ' S' w' a.eval h1 h2 (by rw [← hop]; exact h5) fun x _ => (hrel.eval x).trans (GV.real_congr h4 (hrel.evG_lt x)).symm
      have no : Region.wanted o (yielded ops a.tmps) = false → (vcD P B ((i, depOf m.op f) :: gp) (putF f m.dst (.v undef)) S K r) →
          ∃ v, YW P ops o v a w ∧ Canon P ops (fun a w => ∃ f S ρ, S₀.W.Le S.W ∧ S₀.σ.length ≤ S.σ.length ∧ Rel N ρ f S.σ.length a ∧ St B ρ S w ∧ K f S) r ((i, v, a) :: sp) (a.put o.dst v) w :=
        fun hw hk => go undef (.v undef) rfl trivial (.inr ⟨hw, rfl⟩) (fun _ _ _ _ _ _ _ _ => .inr ⟨hw, rfl⟩) hk
      rcases vcMI_cases hv with ⟨h1, hv⟩ | ⟨s, want, b, h1, hb, hv⟩ | ⟨s, want, vs, h1, hb, hv⟩
      · rcases hgd with ⟨hgn, _⟩ | ⟨j, want, s, _, _, hgn⟩
        · exact yes (wanted_none hgn) hv
        · rw [h1] at hgn; cases hgn
      · rcases hgd with ⟨_, hgn⟩ | ⟨j, want', s', hgo, hs, hgn⟩
        · rw [hgn] at h1; cases h1
        · rw [h1] at hgn
          simp only [Option.some.injEq, Prod.mk.injEq] at hgn
          obtain ⟨rfl, rfl⟩ := hgn
          have hbv := hrel.val s
          rw [hb] at hbv
          have hw := wanted_bool hgo hs hbv
          rcases hv with ⟨rfl, hv⟩ | ⟨hne, hv⟩
          · exact yes (by rw [hw]; simp) hv
          · exact no (by rw [hw]; simpa using hne) hv
      · rcases hgd with ⟨_, hgn⟩ | ⟨j, want', s', hgo, hs, hgn⟩
        · rw [hgn] at h1; cases h1
        · rw [h1] at hgn
          simp only [Option.some.injEq, Prod.mk.injEq] at hgn
          obtain ⟨rfl, rfl⟩ := hgn
          have hbv := hrel.val s
          rw [hb] at hbv
          exact no (wanted_tuple hgo hs hbv) hv
    | false =>
      simp only [hq] at hv ⊢
      have hpl : ∀ k, k + 1 ∈ protOf m gp → k < S.σ.length := fun k hk => by
        obtain ⟨q, ks, h1, h2⟩ := protOf_sub hk; exact hg q ks h1 k h2
      have hs := step_MI hres hrel hst hpl hv
      have next : ∀ v w', FR B N (protOf m gp) S ρ (fun f' S' => vcD P B gp f' S' K r) (a.put o.dst v) w' →
          (∀ p ∈ sp.filter (fun p => !m.past.contains p.1), ∃ oq, ops[p.1]? = some oq ∧ YW P ops oq p.2.1 p.2.2 w') ∧
          Canon P ops (fun a w => ∃ f S ρ, S₀.W.Le S.W ∧ S₀.σ.length ≤ S.σ.length ∧ Rel N ρ f S.σ.length a ∧ St B ρ S w ∧ K f S) r (sp.filter fun p => !m.past.contains p.1) (a.put o.dst v) w' := by
        rintro v w' ⟨f', S', ρ', h1, h2, h3, h4, h5⟩
        have keep : ∀ p ∈ sp.filter (fun p => !m.past.contains p.1), ∃ ks oq, (p.1, ks) ∈ gp ∧ ops[p.1]? = some oq ∧ Held ks S S' ∧ ∀ (S' : GS) (ρ' : Nat → Nat) (w' : World), St B ρ' S' w' → S.W.Le S'.W → S.σ.length ≤ S'.σ.length → (∀ k, k < S.σ.length → ρ' k = ρ k) →
            Held ks S S' → YW P ops oq p.2.1 p.2.2 w' := by
          intro p hpm
          obtain ⟨hpm, hnp⟩ := List.mem_filter.1 hpm
          obtain ⟨ks, oq, g1, g2, g3⟩ := hp p hpm
          exact ⟨ks, oq, g1, g2, ⟨fun k hk => h3.prot.var k (protOf_mem g1 (by simpa using hnp) _ hk), fun h0 => h3.prot.own (protOf_mem g1 (by simpa using hnp) _ h0)⟩, g3⟩
        refine ⟨fun p hpm => ?_, canon_of_vc ht.2 h5 h1 h4 (hl.trans h3.le) (Nat.le_trans hn h3.len) (fun q ks hm k hk => Nat.lt_of_lt_of_le (hg q ks hm k hk) h3.len) fun p hpm => ?_⟩
        · obtain ⟨ks, oq, g1, g2, g3, g4⟩ := keep p hpm
          exact ⟨oq, g2, g4 S' ρ' w' h4 h3.le h3.len h2 g3⟩
        · obtain ⟨ks, oq, g1, g2, g3, g4⟩ := keep p hpm
          exact ⟨ks, oq, g1, g2, fun S'' ρ'' w'' k1 k2 k3 k4 k5 => g4 S'' ρ'' w'' k1 (h3.le.trans k2) (Nat.le_trans h3.len k3) (fun k hk => (k4 k (Nat.lt_of_lt_of_le hk h3.len)).trans (h2 k hk)) (g3.trans k5)⟩
      refine ⟨fun hw => ?_, fun hw => next _ _ (hs.2 hw)⟩
      have := hs.1 hw
      revert this
      generalize (execOp a.eval o).run P w = r'
      intro this
      cases r' with
      | ok n w' =>
        cases n <;> simp only [OpPost] at this ⊢
        case value v => exact next _ _ this
        case skip => exact next _ _ this
        case enter fid args => exact this.mono fun e w'' ⟨v, he, hr⟩ => ⟨v, he, next _ _ hr⟩
      | halt x w' => exact this.elim

theorem frz_dep {m : M} {f : Fr} {S : GS} (h : Frz m f S) : ∀ k, ¬ k + 1 ∈ depOf m f := by
  intro k hk
  cases m <;> simp only [Frz] at h
  all_goals
    simp only [depOf] at hk
    split at h
    · rename_i hx
      rw [hx] at hk
      simp at hk
    · exact h
theorem frz_vc {m : M} {f : Fr} {S : GS} (h : Frz m f S) : ∃ v, vcOp P B m f [] ⟨S.σ, [], S.W⟩ (fun g _ => g = .v v) := by
  cases m <;> simp only [Frz] at h
  all_goals
    split at h
    · rename_i hx
      first
        | (obtain ⟨v, hr⟩ := h
           exact ⟨v, by simp only [vcOp, hx]; exact ⟨v, .inl hr, rfl⟩⟩)
        | (obtain ⟨cs, hl, hr⟩ := h
           exact ⟨.agg ⟨cs⟩, by simp only [vcOp, hx]; exact ⟨cs, hl, fun j v hj => .inl (hr j v hj), rfl⟩⟩)
    · exact h.elim
theorem vcMI_monoZ {f : Fr} {S : GS} {prot : List Nat} {K K' : Fr → GS → Prop} {m : MI} (h : ∀ f' S', K f' S' → K' f' S') (hv : vcMI P B f prot S K m) : vcMI P B f prot S K' m := by
  unfold vcMI at hv ⊢
  split at hv
  · exact vcOp_mono (fun _ _ => h _ _) hv
  · rename_i s want _
    split at hv
    · rename_i b _
      cases b <;> cases want <;> simp only [Branch] at hv ⊢ <;> first | exact vcOp_mono (fun _ _ => h _ _) hv | exact h _ _ hv
    · exact h _ _ hv
    · exact hv
theorem canon_of_vcZ {K : Fr → GS → Prop} : ∀ {t : DT} {gp : List (Nat × List Nat)} {sp : Pend} {f : Fr} {S : GS} {ρ : Nat → Nat} {a : Act} {w : World} {S₀ : GS}, TreeIs P N ops ps t → vcZ P B gp f S K t → Rel N ρ f S.σ.length a → St B ρ S w →
    S₀.W.Le S.W → S₀.σ.length ≤ S.σ.length → (∀ q ks, (q, ks) ∈ gp → ∀ k, k + 1 ∈ ks → k < S.σ.length) → PendOK P B ops gp sp S ρ →
    Canon P ops (fun a w => ∃ f S ρ, S₀.W.Le S.W ∧ S₀.σ.length ≤ S.σ.length ∧ Rel N ρ f S.σ.length a ∧ St B ρ S w ∧ K f S) t sp a w
  | .nil, gp, sp, f, S, ρ, a, w, S₀, _, hv, hrel, hst, hl, hn, _, _ => ⟨f, S, ρ, hl, hn, hrel, hst, hv⟩
  | .both x y, gp, sp, f, S, ρ, a, w, S₀, ht, hv, hrel, hst, hl, hn, hg, hp => ⟨canon_of_vcZ ht.1 hv.1 hrel hst hl hn hg hp, canon_of_vcZ ht.2 hv.2 hrel hst hl hn hg hp⟩
  | .z _, _, _, _, _, _, _, _, _, ht, _, _, _, _, _, _, _ => ht.elim
  | .op i m r, gp, sp, f, S, ρ, a, w, S₀, ht, hv, hrel, hst, hl, hn, hg, hp => by
    obtain ⟨o, past, ho, hres, hop, _⟩ := resDI_spec ht.1
    refine ⟨o, ho, ?_⟩
    simp only [vcZ] at hv
    cases hq : isQ m.op with
    | true =>
      simp only [hq] at hv ⊢
      obtain ⟨hdst, _, _, hd, hgd⟩ := resMI_spec hres
      have go : ∀ (ks : List Nat), (∀ k, k + 1 ∈ ks → k < S.σ.length) → ∀ (v : Value) (g : GV), v = g.real ρ → g.lt S.σ.length → YW P ops o v a w →
          (∀ (S' : GS) (ρ' : Nat → Nat) (w' : World), St B ρ' S' w' → S.W.Le S'.W → S.σ.length ≤ S'.σ.length → (∀ k, k < S.σ.length → ρ' k = ρ k) → Held ks S S' → YW P ops o v a w') →
          vcZ P B ((i, ks) :: gp) (putF f m.dst g) S K r →
          ∃ v, YW P ops o v a w ∧ Canon P ops (fun a w => ∃ f S ρ, S₀.W.Le S.W ∧ S₀.σ.length ≤ S.σ.length ∧ Rel N ρ f S.σ.length a ∧ St B ρ S w ∧ K f S) r ((i, v, a) :: sp) (a.put o.dst v) w := by
        intro ks hks v g hvg hglt hy hstay hk
        rw [hdst] at hk
        refine ⟨v, hy, canon_of_vcZ ht.2 hk ?_ hst hl hn ?_ ?_⟩
        · rw [hvg]; exact hrel.put hd hglt
        · intro q ks' hm k hkk
          rcases List.mem_cons.1 hm with e | hm
          · simp only [Prod.mk.injEq] at e
            rw [e.2] at hkk
            exact hks k hkk
          · exact hg q ks' hm k hkk
        · intro p hpm
          rcases List.mem_cons.1 hpm with rfl | hpm
          · exact ⟨_, o, List.mem_cons_self .., ho, hstay⟩
          · obtain ⟨ks', oq, h1, h2, h3⟩ := hp p hpm
            exact ⟨ks', oq, List.mem_cons_of_mem _ h1, h2, h3⟩
      have hdl : ∀ k, k + 1 ∈ depOf m.op f → k < S.σ.length := fun k hkk => depOf_lt hrel.lt k hkk
      have yes : ∀ (Kx : GV → GS → Prop), (∀ g, Kx g S → vcZ P B ((i, depOf m.op f) :: gp) (putF f m.dst g) S K r ∨ (Frz m.op f S ∧ vcZ P B ((i, []) :: gp) (putF f m.dst g) S K r)) → Region.wanted o (yielded ops a.tmps) = true → vcOp P B m.op f [] S Kx →
          ∃ v, YW P ops o v a w ∧ Canon P ops (fun a w => ∃ f S ρ, S₀.W.Le S.W ∧ S₀.σ.length ≤ S.σ.length ∧ Rel N ρ f S.σ.length a ∧ St B ρ S w ∧ K f S) r ((i, v, a) :: sp) (a.put o.dst v) w := by
        intro Kx hKx hw hvc
        obtain ⟨g, hK, hqk⟩ := vcOp_quiet (o := o) hop.symm hq hvc hrel.lt hst.cells
        have hrun := hqk.run ρ S w a.eval hst (PW.Le.refl _) (Held.refl _ _) (fun x _ => hrel.eval x)
        rcases hKx g hK with hk | ⟨hfz, hk⟩
        · refine go _ hdl (g.real ρ) g rfl hqk.lt (.inl ⟨hw, hrun⟩) (fun S' ρ' w' h1 h2 h3 h4 h5 => .inl ⟨hw, ?_⟩) hk
          rw [← GV.real_congr h4 hqk.lt]
          exact hqk.run ρ' S' w' a.eval h1 h2 (by rw [← hop]; exact h5) fun x _ => (hrel.eval x).trans (GV.real_congr h4 (hrel.evG_lt x)).symm
        · obtain ⟨v0, hv0⟩ := frz_vc (B := B) (P := P) hfz
          obtain ⟨g0, hg0, hq0⟩ := vcOp_quiet (o := o) (S := ⟨S.σ, [], S.W⟩) hop.symm hq hv0 hrel.lt hst.cells
          subst hg0
          have held0 : ∀ S' : GS, Held (depOf (resOp P o) f) ⟨S.σ, [], S.W⟩ S' := fun S' => ⟨fun k hk => absurd hk (by rw [← hop]; exact frz_dep hfz k), fun _ i o hi => by simp at hi⟩
          have hrun0 := hq0.run ρ S w a.eval hst (PW.Le.refl _) (held0 S) (fun x _ => hrel.eval x)
          rw [hrun] at hrun0
          have hgv : g.real ρ = v0 := by simpa [GV.real] using hrun0
          refine go [] (fun k hk => by cases hk) (g.real ρ) g rfl hqk.lt (.inl ⟨hw, hrun⟩) (fun S' ρ' w' h1 h2 h3 h4 _ => .inl ⟨hw, ?_⟩) hk
          rw [hgv]
          exact hq0.run ρ' S' w' a.eval h1 h2 (held0 S') fun x _ => (hrel.eval x).trans (GV.real_congr h4 (hrel.evG_lt x)).symm
      have no : Region.wanted o (yielded ops a.tmps) = false → (vcZ P B ((i, depOf m.op f) :: gp) (putF f m.dst (.v undef)) S K r ∨ (Frz m.op f S ∧ vcZ P B ((i, []) :: gp) (putF f m.dst (.v undef)) S K r)) →
          ∃ v, YW P ops o v a w ∧ Canon P ops (fun a w => ∃ f S ρ, S₀.W.Le S.W ∧ S₀.σ.length ≤ S.σ.length ∧ Rel N ρ f S.σ.length a ∧ St B ρ S w ∧ K f S) r ((i, v, a) :: sp) (a.put o.dst v) w :=
        fun hw hk => hk.elim (fun hk => go _ hdl undef (.v undef) rfl trivial (.inr ⟨hw, rfl⟩) (fun _ _ _ _ _ _ _ _ => .inr ⟨hw, rfl⟩) hk) fun hk => go [] (fun k hk => by cases hk) undef (.v undef) rfl trivial (.inr ⟨hw, rfl⟩) (fun _ _ _ _ _ _ _ _ => .inr ⟨hw, rfl⟩) hk.2
      have hv : vcMI P B f [] S (fun f' S' => vcZ P B ((i, depOf m.op f) :: gp) f' S' K r ∨ (Frz m.op f S ∧ vcZ P B ((i, []) :: gp) f' S' K r)) m := by
        cases hz : isLdM m.op <;> simp only [hz] at hv
        · exact vcMI_monoZ (fun _ _ hk => .inl hk) hv
        · exact hv
      rcases vcMI_cases hv with ⟨h1, hv⟩ | ⟨s, want, b, h1, hb, hv⟩ | ⟨s, want, vs, h1, hb, hv⟩
      · rcases hgd with ⟨hgn, _⟩ | ⟨j, want, s, _, _, hgn⟩
        · exact yes _ (fun g h => h) (wanted_none hgn) hv
        · rw [h1] at hgn; cases hgn
      · rcases hgd with ⟨_, hgn⟩ | ⟨j, want', s', hgo, hs, hgn⟩
        · rw [hgn] at h1; cases h1
        · rw [h1] at hgn
          simp only [Option.some.injEq, Prod.mk.injEq] at hgn
          obtain ⟨rfl, rfl⟩ := hgn
          have hbv := hrel.val s
          rw [hb] at hbv
          have hw := wanted_bool hgo hs hbv
          rcases hv with ⟨rfl, hv⟩ | ⟨hne, hv⟩
          · exact yes _ (fun g h => h) (by rw [hw]; simp) hv
          · exact no (by rw [hw]; simpa using hne) hv
      · rcases hgd with ⟨_, hgn⟩ | ⟨j, want', s', hgo, hs, hgn⟩
        · rw [hgn] at h1; cases h1
        · rw [h1] at hgn
          simp only [Option.some.injEq, Prod.mk.injEq] at hgn
          obtain ⟨rfl, rfl⟩ := hgn
          have hbv := hrel.val s
          rw [hb] at hbv
          exact no (wanted_tuple hgo hs hbv) hv
    | false =>
      simp only [hq] at hv ⊢
      have hpl : ∀ k, k + 1 ∈ protOf m gp → k < S.σ.length := fun k hk => by
        obtain ⟨q, ks, h1, h2⟩ := protOf_sub hk; exact hg q ks h1 k h2
      have hs := step_MI hres hrel hst hpl hv
      have next : ∀ v w', FR B N (protOf m gp) S ρ (fun f' S' => vcZ P B gp f' S' K r) (a.put o.dst v) w' →
          (∀ p ∈ sp.filter (fun p => !m.past.contains p.1), ∃ oq, ops[p.1]? = some oq ∧ YW P ops oq p.2.1 p.2.2 w') ∧
          Canon P ops (fun a w => ∃ f S ρ, S₀.W.Le S.W ∧ S₀.σ.length ≤ S.σ.length ∧ Rel N ρ f S.σ.length a ∧ St B ρ S w ∧ K f S) r (sp.filter fun p => !m.past.contains p.1) (a.put o.dst v) w' := by
        rintro v w' ⟨f', S', ρ', h1, h2, h3, h4, h5⟩
        have keep : ∀ p ∈ sp.filter (fun p => !m.past.contains p.1), ∃ ks oq, (p.1, ks) ∈ gp ∧ ops[p.1]? = some oq ∧ Held ks S S' ∧ ∀ (S' : GS) (ρ' : Nat → Nat) (w' : World), St B ρ' S' w' → S.W.Le S'.W → S.σ.length ≤ S'.σ.length → (∀ k, k < S.σ.length → ρ' k = ρ k) →
            Held ks S S' → YW P ops oq p.2.1 p.2.2 w' := by
          intro p hpm
          obtain ⟨hpm, hnp⟩ := List.mem_filter.1 hpm
          obtain ⟨ks, oq, g1, g2, g3⟩ := hp p hpm
          exact ⟨ks, oq, g1, g2, ⟨fun k hk => h3.prot.var k (protOf_mem g1 (by simpa using hnp) _ hk), fun h0 => h3.prot.own (protOf_mem g1 (by simpa using hnp) _ h0)⟩, g3⟩
        refine ⟨fun p hpm => ?_, canon_of_vcZ ht.2 h5 h1 h4 (hl.trans h3.le) (Nat.le_trans hn h3.len) (fun q ks hm k hk => Nat.lt_of_lt_of_le (hg q ks hm k hk) h3.len) fun p hpm => ?_⟩
        · obtain ⟨ks, oq, g1, g2, g3, g4⟩ := keep p hpm
          exact ⟨oq, g2, g4 S' ρ' w' h4 h3.le h3.len h2 g3⟩
        · obtain ⟨ks, oq, g1, g2, g3, g4⟩ := keep p hpm
          exact ⟨ks, oq, g1, g2, fun S'' ρ'' w'' k1 k2 k3 k4 k5 => g4 S'' ρ'' w'' k1 (h3.le.trans k2) (Nat.le_trans h3.len k3) (fun k hk => (k4 k (Nat.lt_of_lt_of_le hk h3.len)).trans (h2 k hk)) (g3.trans k5)⟩
      refine ⟨fun hw => ?_, fun hw => next _ _ (hs.2 hw)⟩
      have := hs.1 hw
      revert this
      generalize (execOp a.eval o).run P w = r'
      intro this
      cases r' with
      | ok n w' =>
        cases n <;> simp only [OpPost] at this ⊢
        case value v => exact next _ _ this
        case skip => exact next _ _ this
        case enter fid args => exact this.mono fun e w'' ⟨v, he, hr⟩ => ⟨v, he, next _ _ hr⟩
      | halt x w' => exact this.elim

theorem draw_sound (hmix : P.follows .mixedOrders = true) {id : Nat} {t : DT} (hres : resDraw P N ops = some t) {S₀ S : GS} {K : Ex → Fr → GS → Prop} {f : Fr} {ρ : Nat → Nat} {a : Act} {w : World}
    (hl : S₀.W.Le S.W) (hn : S₀.σ.length ≤ S.σ.length) (hrel : Rel N ρ f S.σ.length a) (hst : St B ρ S w) (hv : vcD P B [] f S (K .normal) t) : (Code.region id ops true).wp P (Qrel B N S₀ K) a w := by
  simp only [resDraw] at hres
  obtain ⟨hb, ht0⟩ := bif_some hres
  obtain ⟨t0, ht, hzt⟩ : ∃ t0, dtree P N ops (pasts ops ops.size) ops.size [] = some t0 ∧ zOf t0 = t := by
    split at ht0
    · rename_i t0 h0
      exact ⟨t0, h0, Option.some.inj ht0⟩
    · cases ht0
  simp only [Bool.and_eq_true] at hb
  have g := good_of (ops := ops) rfl hb.1.1 hb.1.2 hb.2
  refine wp_region_any hmix ?_
  have hst' : St B ρ S w.drew := hst.drew
  have hc : Canon P ops (fun a w => ∃ f S ρ, S₀.W.Le S.W ∧ S₀.σ.length ≤ S.σ.length ∧ Rel N ρ f S.σ.length a ∧ St B ρ S w ∧ K .normal f S) t0 [] a w.drew := by
    unfold zOf at hzt
    cases hcr : critZ t0 [] 0 false with
    | true =>
      rw [hcr] at hzt
      obtain rfl : DT.z t0 = t := hzt
      exact canon_of_vcZ (S₀ := S₀) (sp := []) (gp := []) (dtree_is _ ht) hv hrel hst' hl hn (fun q ks h => by cases h) (fun p h => by cases h)
    | false =>
      rw [hcr] at hzt
      obtain rfl : t0 = t := hzt
      exact canon_of_vc (S₀ := S₀) (sp := []) (dtree_is _ ht) hv hrel hst' hl hn (fun q ks h => by cases h) (fun p h => by cases h)
  have hs : Sim P ops a [] [] [] a a (Array.replicate ops.size false) w.drew := by
    refine ⟨⟨rfl, rfl, fun _ _ => rfl⟩, ⟨rfl, rfl, fun _ _ => rfl⟩, fun p h => h, List.nodup_nil, List.nodup_nil, by simp, fun i hi => ?_, fun i h => (by cases h), fun i h => (by cases h), fun i h => (by cases h), fun i v h => (by cases h)⟩
    simp [hi, idx]
  obtain ⟨k', E', pend', ac', t', s1, s2, s3, s4⟩ := saturate g ops.size hs ht hc
  exact any_of_canon g (fun i j hj => pasts_sound ops _ _ hj) (Q := Qrel B N S₀ K) ops.size (by simp) s1 s2 s3 s4

end
end Go.Proofs.YtcgbcbdgjhnlaaaGreat

namespace Go.Proofs.YtcgbcbdgjhnlaaaGreat
open Go.RowKit

theorem inR_cons {a b : Nat} {r : List (Nat × Nat)} {i : Nat} : inR ((a, b) :: r) i = true ↔ (a ≤ i ∧ i < b) ∨ inR r i = true := by
  simp only [inR, Bool.or_eq_true, Bool.and_eq_true]
  constructor
  · rintro (⟨h1, h2⟩ | h)
    · exact .inl ⟨ble_le h1, ble_le (a := i + 1) h2⟩
    · exact .inr h
  · rintro (⟨h1, h2⟩ | h)
    · exact .inl ⟨Nat.ble_eq_true_of_le h1, Nat.ble_eq_true_of_le (n := i + 1) h2⟩
    · exact .inr h
theorem merge1_iff (d i : Nat) : ∀ l : List (Nat × Nat), inR (merge1 d l) i = true ↔ inR l i = true ∨ i = d
  | [] => by
    simp only [merge1, inR_cons]
    simp only [inR, Bool.false_eq_true, or_false, false_or]
    omega
  | (a, b) :: r => by
    simp only [merge1]
    cases h1 : Nat.ble a d && Nat.blt d b with
    | true =>
      simp only [Bool.and_eq_true] at h1
      have g1 := ble_le h1.1
      have g2 := ble_le (a := d + 1) h1.2
      simp only [cond_true]
      refine ⟨.inl, fun h => h.elim id fun e => ?_⟩
      subst e
      exact inR_cons.2 (.inl ⟨g1, g2⟩)
    | false =>
      simp only [cond_false]
      cases h2 : Nat.beq d b && Nat.ble a d with
      | true =>
        simp only [Bool.and_eq_true] at h2
        have g1 := Nat.eq_of_beq_eq_true h2.1
        have g2 := ble_le h2.2
        simp only [cond_true, inR_cons]
        constructor
        · rintro (h | h)
          · by_cases e : i = d
            · exact .inr e
            · exact .inl (.inl (by omega))
          · exact .inl (.inr h)
        · rintro ((h | h) | h)
          · exact .inl (by omega)
          · exact .inr h
          · exact .inl (by omega)
      | false =>
        simp only [cond_false, inR_cons, merge1_iff d i r]
        constructor
        · rintro (h | h | h)
          · exact .inl (.inl h)
          · exact .inl (.inr h)
          · exact .inr h
        · rintro ((h | h) | h)
          · exact .inl h
          · exact .inr (.inl h)
          · exact .inr (.inr h)

/-- The slots that one operation may write. -/
def wMI (m : MI) (i : Nat) : Prop := (∃ s b, m.guard = some (s, b) ∧ i = s) ∨ m.dst = some i
def wD : DT → Nat → Prop
  | .nil, _ => False
  | .op _ m r, i => wMI m i ∨ wD r i
  | .both a b, i => wD a i ∨ wD b i
  | .z t, i => wD t i
def wC : MC → Nat → Prop
  | .ops l, i => ∃ m ∈ l, wMI m i
  | .dops t, i => wD t i
  | .seq a b, i => wC a i ∨ wC b i
  | .cond _ a b, i => wC a i ∨ wC b i
  | .block _ a, i => wC a i
  | .loop _ a, i => wC a i
  | .scope a, i => wC a i
  | _, _ => False

theorem wrL_iff (i : Nat) : ∀ (l : List MI) (w : List (Nat × Nat)), inR (wrL l w) i = true ↔ inR w i = true ∨ ∃ m ∈ l, wMI m i
  | [], w => by simp [wrL]
  | m :: r, w => by
    simp only [wrL]
    rw [wrL_iff i r]
    have h1 : inR (wr1 m w) i = true ↔ inR w i = true ∨ wMI m i := by
      unfold wMI wr1
      cases hg : m.guard <;> cases hd : m.dst <;> simp only [merge1_iff, Option.some.injEq, reduceCtorEq, false_and, exists_const, or_false, false_or]
      · exact ⟨fun h => h.imp id Eq.symm, fun h => h.imp id Eq.symm⟩
      · rename_i p
        obtain ⟨s, b⟩ := p
        simp
      · rename_i p d
        obtain ⟨s, b⟩ := p
        simp only [Prod.mk.injEq]
        constructor
        · rintro ((h | h) | h)
          · exact .inl h
          · exact .inr (.inr h.symm)
          · exact .inr (.inl ⟨s, b, ⟨rfl, rfl⟩, h⟩)
        · rintro (h | ⟨_, _, ⟨rfl, _⟩, h⟩ | h)
          · exact .inl (.inl h)
          · exact .inr h
          · exact .inl (.inr h.symm)
    rw [h1]
    simp only [List.mem_cons, exists_eq_or_imp, or_assoc]
theorem wrD_iff (i : Nat) : ∀ (t : DT) (w : List (Nat × Nat)), inR (wrD t w) i = true ↔ inR w i = true ∨ wD t i
  | .nil, w => by simp [wrD, wD]
  | .op _ m r, w => by simp only [wrD, wD, wrD_iff i r, wrL_iff, List.mem_singleton, exists_eq_left, or_assoc]
  | .both a b, w => by simp only [wrD, wD, wrD_iff i b, wrD_iff i a, or_assoc]
  | .z t, w => by simp only [wrD, wD, wrD_iff i t]
theorem wrC_iff (i : Nat) : ∀ (c : MC) (w : List (Nat × Nat)), inR (wrC c w) i = true ↔ inR w i = true ∨ wC c i
  | .skip, w => by simp [wrC, wC]
  | .ops l, w => wrL_iff i l w
  | .dops t, w => wrD_iff i t w
  | .seq a b, w => by simp only [wrC, wC, wrC_iff i b, wrC_iff i a, or_assoc]
  | .cond _ a b, w => by simp only [wrC, wC, wrC_iff i b, wrC_iff i a, or_assoc]
  | .block _ a, w => wrC_iff i a w
  | .loop _ a, w => wrC_iff i a w
  | .exit _, w => by simp [wrC, wC]
  | .ret, w => by simp [wrC, wC]
  | .scope a, w => wrC_iff i a w

theorem inD_of {wr : List (Nat × Nat)} : ∀ {t : DT}, (∀ i, wD t i → inR wr i = true) → inD wr t
  | .nil, _ => trivial
  | .op _ _ _, h => ⟨fun x hx => h x (.inl (.inr hx)), inD_of fun i hi => h i (.inr hi)⟩
  | .both _ _, h => ⟨inD_of fun i hi => h i (.inl hi), inD_of fun i hi => h i (.inr hi)⟩
  | .z t, h => inD_of (t := t) fun i hi => h i hi

section
variable {P : Program} {B : Base} {N : Nat}

theorem inC_of {wr : List (Nat × Nat)} : ∀ {c : Code} {mc : MC}, resC P N c = some mc → (∀ i, wC mc i → inR wr i = true) → inC wr mc := by
  intro c
  induction c generalizing wr with
  | skip => intro mc h _; simp only [resC, Option.some.injEq] at h; subst h; trivial
  | region id ops draw =>
    intro mc h hw
    cases draw
    · simp only [resC] at h
      split at h
      · simp only [Option.some.injEq] at h; subst h; exact fun m hm x hx => hw x ⟨m, hm, .inr hx⟩
      · cases h
    · simp only [resC] at h
      split at h
      · simp only [Option.some.injEq] at h; subst h; exact inD_of hw
      · cases h
  | seq a b iha ihb =>
    intro mc h hw
    simp only [resC] at h
    split at h
    · rename_i x y hx hy
      simp only [Option.some.injEq] at h; subst h
      exact ⟨iha hx fun i hi => hw i (.inl hi), ihb hy fun i hi => hw i (.inr hi)⟩
    · cases h
  | cond o a b iha ihb =>
    intro mc h hw
    simp only [resC] at h
    split at h
    · rename_i x y hx hy
      simp only [Option.some.injEq] at h; subst h
      exact ⟨iha hx fun i hi => hw i (.inl hi), ihb hy fun i hi => hw i (.inr hi)⟩
    · cases h
  | block id a iha =>
    intro mc h hw
    simp only [resC] at h
    split at h
    · rename_i x hx
      simp only [Option.some.injEq] at h; subst h
      exact iha (mc := x) hx hw
    · cases h
  | loop a iha =>
    intro mc h hw
    simp only [resC] at h
    split at h
    · rename_i x hx
      simp only [Option.some.injEq] at h; subst h
      refine ⟨iha hx hw, iha hx fun i hi => (wrC_iff i x []).2 (.inr hi), fun i hi => ?_⟩
      rcases (wrC_iff i x []).1 hi with h | h
      · cases h
      · exact hw i h
    · cases h
  | exit id => intro mc h _; simp only [resC, Option.some.injEq] at h; subst h; trivial
  | ret => intro mc h _; simp only [resC, Option.some.injEq] at h; subst h; trivial
  | scope a iha =>
    intro mc h hw
    simp only [resC] at h
    split at h
    · rename_i x hx
      simp only [Option.some.injEq] at h; subst h
      exact iha (mc := x) hx hw
    · cases h
  | _ => intro mc h; simp only [resC, reduceCtorEq] at h

theorem St.take {ρ : Nat → Nat} {S : GS} {w : World} (h : St B ρ S w) {n : Nat} (hn : n ≤ S.σ.length) (hc : ∀ cs ∈ S.σ.take n, ∀ c ∈ cs, c.lt n) (hr : B.rc.length ≤ n) : St B ρ { S with σ := S.σ.take n } w := by
  have hl : (S.σ.take n).length = n := by rw [List.length_take]; omega
  have hg : ∀ (k : Nat) (cs : List PV), (S.σ.take n)[k]? = some cs → k < n ∧ S.σ[k]? = some cs := by
    intro k cs hk
    have hk' := (List.getElem?_eq_some_iff.1 hk).1
    rw [hl] at hk'
    rw [List.getElem?_take_of_lt hk'] at hk
    exact ⟨hk', hk⟩
  refine ⟨h.keep, h.vsize, h.vblock, h.mono, h.back, fun k cs hk => h.loc k cs (hg k cs hk).2, fun k hk => h.locA k (by rw [hl] at hk; omega), fun j k hj hk => h.inj j k (by rw [hl] at hj; omega) (by rw [hl] at hk; omega), fun k cs hk c hcm => ?_, fun k g hk => ?_, fun i o hi => ?_, h.sep⟩
  · simp only [hl]
    exact hc cs (List.mem_of_getElem? hk) c hcm
  · obtain ⟨h1, h2⟩ := h.rc k g hk
    have := (List.getElem?_eq_some_iff.1 hk).1
    exact ⟨by simp only [hl]; omega, h2⟩
  · obtain ⟨h1, h2⟩ := h.own i o hi
    exact ⟨h1, fun b hb => ⟨(h2 b hb).1, (h2 b hb).2.1, fun k hk => (h2 b hb).2.2 k (by rw [hl] at hk; omega)⟩⟩

theorem isNil_spec {o : Own} (h : o.isNil = true) : o.v = .slice none 0 0 ∧ o.n = 0 ∧ o.cs = [] := by
  unfold Own.isNil at h
  split at h
  · rename_i hv
    split at h
    · rename_i h1 h2; exact ⟨hv, h1, h2⟩
    · cases h
  · cases h

/-- Where each entry of the fewer stands among the more. -/
theorem sublist_map {α : Type} {l l' : List α} (h : l.Sublist l') : ∃ m : Nat → Nat, (∀ i j, i < l.length → j < l.length → m i = m j → i = j) ∧ ∀ i x, l[i]? = some x → l'[m i]? = some x := by
  induction h with
  | slnil => exact ⟨id, fun _ _ _ _ h => h, fun i x h => by simp at h⟩
  | cons a _ ih =>
    obtain ⟨m, h1, h2⟩ := ih
    exact ⟨fun i => m i + 1, fun i j hi hj h => h1 i j hi hj (Nat.succ.inj h), fun i x h => by simpa using h2 i x h⟩
  | cons_cons a _ ih =>
    obtain ⟨m, h1, h2⟩ := ih
    refine ⟨fun i => match i with | 0 => 0 | i + 1 => m i + 1, fun i j hi hj h => ?_, fun i x h => ?_⟩
    · cases i <;> cases j
      · rfl
      · simp at h
      · simp at h
      · simp only [Nat.add_right_cancel_iff] at h
        simp only [List.length_cons] at hi hj
        rw [h1 _ _ (by omega) (by omega) h]
    · cases i with
      | zero => simpa using h
      | succ i => simpa using h2 i x (by simpa using h)

/-- The entries that are no nil slices, by place. -/
theorem filter_place {α : Type} (p : α → Bool) : ∀ (l : List α), ∃ m : Nat → Nat, (∀ i j x y, l[i]? = some x → l[j]? = some y → p x = true → p y = true → m i = m j → i = j) ∧ ∀ i x, l[i]? = some x → p x = true → (l.filter p)[m i]? = some x
  | [] => ⟨id, fun _ _ _ _ _ _ _ _ h => h, fun i x h => by simp at h⟩
  | a :: l => by
    obtain ⟨m, h1, h2⟩ := filter_place p l
    cases ha : p a with
    | false =>
      refine ⟨fun i => match i with | 0 => 0 | i + 1 => m i, fun i j x y hi hj hx hy h => ?_, fun i x hi hx => ?_⟩
      · cases i with
        | zero => simp only [List.getElem?_cons_zero, Option.some.injEq] at hi; subst hi; rw [ha] at hx; cases hx
        | succ i => cases j with
          | zero => simp only [List.getElem?_cons_zero, Option.some.injEq] at hj; subst hj; rw [ha] at hy; cases hy
          | succ j => rw [h1 i j x y (by simpa using hi) (by simpa using hj) hx hy h]
      · cases i with
        | zero => simp only [List.getElem?_cons_zero, Option.some.injEq] at hi; subst hi; rw [ha] at hx; cases hx
        | succ i => rw [List.filter_cons_of_neg (by simp [ha])]; exact h2 i x (by simpa using hi) hx
    | true =>
      refine ⟨fun i => match i with | 0 => 0 | i + 1 => m i + 1, fun i j x y hi hj hx hy h => ?_, fun i x hi hx => ?_⟩
      · cases i <;> cases j
        · rfl
        · simp at h
        · simp at h
        · simp only [Nat.add_right_cancel_iff] at h
          rw [h1 _ _ x y (by simpa using hi) (by simpa using hj) hx hy h]
      · rw [List.filter_cons_of_pos ha]
        cases i with
        | zero => simpa using hi
        | succ i => simpa using h2 i x (by simpa using hi) hx

theorem St.ole {ρ : Nat → Nat} {S : GS} {w : World} (h : St B ρ S w) {O' : List Own} (hO : OLe S.O O') : St B ρ { S with O := O' } w := by
  obtain ⟨m1, a1, b1⟩ := filter_place (fun o : Own => !o.isNil) O'
  obtain ⟨m2, a2, b2⟩ := sublist_map hO
  have key : ∀ (i : Nat) (o : Own), O'[i]? = some o → o.isNil = true ∨ S.O[m2 (m1 i)]? = some o := by
    intro i o hi
    cases hn : o.isNil with
    | true => exact .inl rfl
    | false => exact .inr (b2 _ _ (b1 i o hi (by simp [hn])))
  refine ⟨h.keep, h.vsize, h.vblock, h.mono, h.back, h.loc, h.locA, h.inj, h.cells, h.rc, fun i o hi => ?_, fun i j oi oj b hi hj hbi hbj => ?_⟩
  · rcases key i o hi with hn | hs
    · obtain ⟨h1, h2, h3⟩ := isNil_spec hn
      refine ⟨?_, fun b hb => ?_⟩
      · rw [h1, h2, h3]; exact World.ownsRow_nil w 0 o.e o.sz
      · rw [h1] at hb; simp [Value.ownBlock] at hb
    · exact h.own _ o hs
  · have notnil : ∀ (o : Own), o.v.ownBlock = some b → o.isNil = false := fun o ho => by
      cases hn : o.isNil with
      | false => rfl
      | true => rw [(isNil_spec hn).1] at ho; simp [Value.ownBlock] at ho
    have ni := notnil oi hbi
    have nj := notnil oj hbj
    have f1 := b1 i oi hi (by simp [ni])
    have f2 := b1 j oj hj (by simp [nj])
    have e := h.sep _ _ oi oj b (b2 _ _ f1) (b2 _ _ f2) hbi hbj
    have e2 := a2 _ _ (List.getElem?_eq_some_iff.1 f1).1 (List.getElem?_eq_some_iff.1 f2).1 e
    exact a1 i j oi oj hi hj (by simp [ni]) (by simp [nj]) e2

theorem St.again {ρ : Nat → Nat} {S : GS} {w : World} (h : St B ρ S w) {W : PW} (hm : B.W.Le W) (hl : W = S.W) : St B ρ { S with W := W } w := by subst hl; exact h

theorem wp_loop_ghost {τ : Type} {c : Code} {Q : Exit → Act → World → Prop} (I : τ → Act → World → Prop) (μ : τ → Nat)
    (round : ∀ t a w, I t a w → c.wp P (Exit.then (fun a' w' => ∃ t', I t' a' w' ∧ μ t' < μ t) Q) a w) {t : τ} {a : Act} {w : World} (h₀ : I t a w) : (Code.loop c).wp P Q a w := by
  intro b k cs
  have key : ∀ n t a w, μ t = n → I t a w →
      ∃ e a' w', Q e a' w' ∧ Arrives P (lone (b.at a (.code c :: .inLoop c :: k)) cs w) b k cs e a' w' := by
    intro n
    induction n using Nat.strongRecOn with
    | _ n ih =>
      intro t a w hn hI
      obtain ⟨e, a₁, w₁, hq, harr⟩ := round t a w hI b (.inLoop c :: k) cs
      cases e with
      | normal =>
        obtain ⟨t', hI₁, hlt⟩ := hq
        obtain ⟨e₂, a₂, w₂, hq₂, harr₂⟩ := ih (μ t') (hn ▸ hlt) t' a₁ w₁ rfl hI₁
        exact ⟨e₂, a₂, w₂, hq₂, .of_steps (Steps.trans harr (.one step_inLoop)) harr₂⟩
      | exit id => exact ⟨_, a₁, w₁, hq, .pass (x := .inLoop c) rfl (fun _ _ => .inl (by simp)) harr⟩
      | goto l => exact ⟨_, a₁, w₁, hq, .pass (x := .inLoop c) rfl (fun _ _ => .inl (by simp)) harr⟩
      | ret => exact ⟨_, a₁, w₁, hq, .pass (x := .inLoop c) rfl (fun _ _ => .inl (by simp)) harr⟩
      | panic ch => exact ⟨_, a₁, w₁, hq, .pass (x := .inLoop c) rfl (fun _ _ => .inl (by simp)) harr⟩
      | outgrown => exact ⟨_, a₁, w₁, hq, .pass (x := .inLoop c) rfl (fun _ _ => .inl (by simp)) harr⟩
  obtain ⟨e, a', w', hq, harr⟩ := key _ t a w rfl h₀
  exact ⟨e, a', w', hq, .of_steps (.one step_loop) harr⟩

theorem setL_cases (i : Nat) : ∀ (l : List (Nat × GV)) (f : Fr), (∃ g, (i, g) ∈ l ∧ setL l f i = g) ∨ ((∀ p ∈ l, p.1 ≠ i) ∧ setL l f i = f i)
  | [], _ => .inr ⟨fun p h => (by cases h), rfl⟩
  | (d, g) :: r, f => by
    by_cases h : i = d
    · subst h; exact .inl ⟨g, List.mem_cons_self .., by simp only [setL, upd_same]⟩
    · simp only [setL, upd_other _ _ h]
      rcases setL_cases i r f with ⟨u, h1, h2⟩ | ⟨h1, h2⟩
      · exact .inl ⟨u, List.mem_cons_of_mem _ h1, h2⟩
      · refine .inr ⟨fun p hp => ?_, h2⟩
        rcases List.mem_cons.1 hp with rfl | hp
        · exact fun e => h e.symm
        · exact h1 p hp

theorem code_sound (hmix : P.follows .mixedOrders = true) : ∀ {c : Code} {mc : MC}, resC P N c = some mc → ∀ {f : Fr} {S S₀ : GS} {ρ : Nat → Nat} {a : Act} {w : World} {K : Ex → Fr → GS → Prop},
    S₀.W.Le S.W → S₀.σ.length ≤ S.σ.length → B.rc.length ≤ S.σ.length → Rel N ρ f S.σ.length a → St B ρ S w → vc P B f S K mc → c.wp P (Qrel B N S₀ K) a w := by
  intro c
  induction c with
  | skip =>
    intro mc h f S S₀ ρ a w K hl hn _ hrel hst hv
    simp only [resC, Option.some.injEq] at h; subst h
    exact wp_skip ⟨f, S, ρ, hl, hn, hrel, hst, hv⟩
  | region id ops draw =>
    intro mc h f S S₀ ρ a w K hl hn _ hrel hst hv
    cases draw
    · simp only [resC] at h
      split at h
      · rename_i ms hm
        simp only [Option.some.injEq] at h; subst h
        exact wp_region_list (list_sound hm hl hn hrel hst hv)
      · cases h
    · simp only [resC] at h
      split at h
      · rename_i t ht
        simp only [Option.some.injEq] at h; subst h
        exact draw_sound hmix ht hl hn hrel hst hv
      · cases h
  | seq x y ihx ihy =>
    intro mc h f S S₀ ρ a w K hl hn hr hrel hst hv
    simp only [resC] at h
    split at h
    · rename_i mx my hx hy
      simp only [Option.some.injEq] at h; subst h
      refine wp_seq (Code.wp_mono (fun e a' w' hq => ?_) (ihx hx (PW.Le.refl S.W) (Nat.le_refl _) hr hrel hst hv))
      cases e with
      | normal =>
        obtain ⟨f', S', ρ', h1, h2, h3, h4, h5⟩ := hq
        exact Code.wp_mono (Qrel.mono (hl.trans h1) (Nat.le_trans hn h2) fun _ _ _ hk => hk) (ihy hy (PW.Le.refl S'.W) (Nat.le_refl _) (Nat.le_trans hr h2) h3 h4 h5)
      | exit id => obtain ⟨f', S', ρ', h1, h2, h3, h4, h5⟩ := hq; exact ⟨f', S', ρ', hl.trans h1, Nat.le_trans hn h2, h3, h4, h5⟩
      | ret => obtain ⟨f', S', ρ', h1, h2, h3, h4, h5⟩ := hq; exact ⟨f', S', ρ', hl.trans h1, Nat.le_trans hn h2, h3, h4, h5⟩
      | goto l => exact hq.elim
      | panic ch => exact hq.elim
      | outgrown => exact hq.elim
    · cases h
  | cond o x y ihx ihy =>
    intro mc h f S S₀ ρ a w K hl hn hr hrel hst hv
    simp only [resC] at h
    split at h
    · rename_i mx my hx hy
      simp only [Option.some.injEq] at h; subst h
      simp only [vc] at hv
      split at hv
      · rename_i t ht
        have hc : a.eval o = .bool t := by rw [hrel.eval, ht]; (first | done | rfl)
        refine wp_cond hc ?_
        cases t
        · exact ihy hy hl hn hr hrel hst hv
        · exact ihx hx hl hn hr hrel hst hv
      · exact hv.elim
    · cases h
  | block id x ihx =>
    intro mc h f S S₀ ρ a w K hl hn hr hrel hst hv
    simp only [resC] at h
    split at h
    · rename_i mx hx
      simp only [Option.some.injEq] at h; subst h
      refine wp_block (Code.wp_mono (fun e a' w' hq => ?_) (ihx hx hl hn hr hrel hst hv))
      cases e with
      | normal => exact hq
      | exit i =>
        obtain ⟨f', S', ρ', h1, h2, h3, h4, h5⟩ := hq
        simp only [Exit.inBlock]
        by_cases hi : i = id
        · rw [if_pos hi]
          dsimp only at h5
          have : Nat.beq i id = true := by rw [hi]; exact Nat.beq_refl id
          rw [this] at h5
          exact ⟨f', S', ρ', h1, h2, h3, h4, h5⟩
        · rw [if_neg hi]
          dsimp only at h5
          have : Nat.beq i id = false := by
            cases hb : Nat.beq i id with
            | false => rfl
            | true => exact absurd (Nat.eq_of_beq_eq_true hb) hi
          rw [this] at h5
          exact ⟨f', S', ρ', h1, h2, h3, h4, h5⟩
      | ret => exact hq
      | goto l => exact hq.elim
      | panic ch => exact hq.elim
      | outgrown => exact hq.elim
    · cases h
  | loop x ihx =>
    intro mc h f S S₀ ρ a w K hl hn hr hrel hst hv
    simp only [resC] at h
    split at h
    · rename_i mx hx
      simp only [Option.some.injEq] at h; subst h
      obtain ⟨τ, sl, σ, O, I, μ, t₀, v1, v2, v3, v4, v5, v6⟩ := hv
      have hin : inC (wrC mx []) mx := inC_of hx fun i hi => (wrC_iff i mx []).2 (.inr hi)
      refine wp_loop_ghost (τ := τ) (fun t a w => ∃ (W : PW) (g : Fr) (ρ : Nat → Nat), S.W.Le W ∧ Rel N ρ (setL (sl t) (mask (wrC mx []) g f)) S.σ.length a ∧ St B ρ ⟨σ t, O t, W⟩ w ∧ I t W) μ ?_ (t := t₀) ?_
      · rintro t a w ⟨W, g, ρ, hW, hrel, hst, hI⟩
        have hlen := (v5 t).2.1
        have hv := vc_frame (K' := fun e f' S' => (match e with
          | .normal => ∃ t', (∀ p, p ∈ sl t' → f' p.1 = p.2) ∧ S'.σ.take S.σ.length = σ t' ∧ OLe S'.O (O t') ∧ I t' S'.W ∧ μ t' < μ t
          | .exit id => K (.exit id) f' S'
          | .ret => K .ret f' S') ∧ ∀ i, inR (wrC mx []) i = false → f' i = setL (sl t) (mask (wrC mx []) g f) i) hin (fun e f' S' hk he => ⟨hk, he⟩) (v6 t W hW hI g)
        refine Code.wp_mono (fun e a' w' hq => ?_) (ihx hx (S₀ := ⟨σ t, O t, W⟩) (PW.Le.refl W) (Nat.le_refl _) (by rw [hlen]; exact hr) (by rw [hlen]; exact hrel) hst hv)
        cases e with
        | normal =>
          obtain ⟨f', S', ρ', h1, h2, h3, h4, ⟨t', k1, k2, k3, k4, k5⟩, h6⟩ := hq
          have hn' : S.σ.length ≤ S'.σ.length := by rw [← hlen]; exact h2
          refine ⟨t', ⟨S'.W, fun i => .v ((f' i).real ρ'), ρ', hW.trans h1, ⟨h3.defers, h3.size, fun i => ?_, fun i => ?_⟩, ?_, k4⟩, k5⟩
          · rw [h3.val i]
            rcases setL_cases i (sl t') (mask (wrC mx []) (fun i => .v ((f' i).real ρ')) f) with ⟨u, hm, hu⟩ | ⟨hm, hu⟩
            · rw [hu, k1 _ hm]
            · rw [hu]
              cases hw : inR (wrC mx []) i with
              | true => simp only [mask, hw, cond_true]; (first | done | rfl)
              | false =>
                simp only [mask, hw, cond_false]
                rw [h6 i hw, setL_out hw fun p hp => ((v5 t).1 p hp).2]
                simp only [mask, hw, cond_false]
          · rcases setL_cases i (sl t') (mask (wrC mx []) (fun i => .v ((f' i).real ρ')) f) with ⟨u, hm, hu⟩ | ⟨hm, hu⟩
            · rw [hu]; exact ((v5 t').1 _ hm).1
            · rw [hu]
              cases hw : inR (wrC mx []) i with
              | true => simp only [mask, hw, cond_true]; trivial
              | false =>
                have := hrel.lt i
                rw [setL_out hw fun p hp => ((v5 t).1 p hp).2] at this
                simp only [mask, hw, cond_false] at this ⊢
                exact this
          · have h5 := h4.take hn' (by rw [k2]; exact (v5 t').2.2) hr
            have h7 := h5.ole k3
            rw [k2] at h7
            exact h7
        | exit id =>
          obtain ⟨f', S', ρ', h1, h2, h3, h4, h5, _⟩ := hq
          exact ⟨f', S', ρ', hl.trans (hW.trans h1), Nat.le_trans hn (by rw [← hlen]; exact h2), h3, h4, h5⟩
        | ret =>
          obtain ⟨f', S', ρ', h1, h2, h3, h4, h5, _⟩ := hq
          exact ⟨f', S', ρ', hl.trans (hW.trans h1), Nat.le_trans hn (by rw [← hlen]; exact h2), h3, h4, h5⟩
        | goto l => exact hq.elim
        | panic ch => exact hq.elim
        | outgrown => exact hq.elim
      · refine ⟨S.W, f, ρ, PW.Le.refl _, ?_, ?_, v4⟩
        · have : setL (sl t₀) (mask (wrC mx []) f f) = f := by
            funext i
            rcases setL_cases i (sl t₀) (mask (wrC mx []) f f) with ⟨u, hm, hu⟩ | ⟨hm, hu⟩
            · rw [hu]; exact (v1 _ hm).symm
            · rw [hu]; simp only [mask]; cases inR (wrC mx []) i <;> rfl
          rw [this]; exact hrel
        · have := hst.ole v3
          rw [← v2]; exact this
    · cases h
  | exit id =>
    intro mc h f S S₀ ρ a w K hl hn _ hrel hst hv
    simp only [resC, Option.some.injEq] at h; subst h
    exact wp_exit ⟨f, S, ρ, hl, hn, hrel, hst, hv⟩
  | ret =>
    intro mc h f S S₀ ρ a w K hl hn _ hrel hst hv
    simp only [resC, Option.some.injEq] at h; subst h
    exact wp_ret ⟨f, S, ρ, hl, hn, hrel, hst, hv⟩
  | scope x ihx =>
    intro mc h f S S₀ ρ a w K hl hn hr hrel hst hv
    simp only [resC] at h
    split at h
    · rename_i mx hx
      simp only [Option.some.injEq] at h; subst h
      refine wp_scope_straight (Code.wp_mono (fun e a' w' hq => ?_) (ihx hx hl hn hr hrel hst hv))
      cases e <;> first | exact hq | exact hq.elim
    · cases h
  | _ => intro mc h; simp only [resC, reduceCtorEq] at h

end
end Go.Proofs.YtcgbcbdgjhnlaaaGreat

namespace Go.Proofs.YtcgbcbdgjhnlaaaGreat
open Go.RowKit

def initV (vs : List Value) : Fr := fun i => .v (vs.getD i undef)
def initM (vs : List Value) : Fr := fun i => match i with | 0 => .lp 0 0 | i + 1 => .v (vs.getD i undef)

/-- What a function's result slots hold. -/
def resG (f : Fr) (S : GS) : List RV → Option (List GV)
  | [] => some []
  | .tmp t :: r => match resG f S r with | some l => some (f t :: l) | none => none
  | .cell t n :: r => match f t, resG f S r with
    | .lp k 0, some l => match S.σ[k]? with
      | some cs => match Nat.beq cs.length n with | true => some (.ag cs :: l) | false => none
      | none => none
    | _, _ => none
def retVal (ρ : Nat → Nat) : List GV → Value
  | [g] => g.real ρ
  | l => .tuple ⟨l.map (GV.real ρ)⟩
structure RetVC (B : Base) (gs : List GV) (R : Value → PW → Prop) (S : GS) : Prop where
  run : ∀ ρ w, St B ρ S w → ∃ W', W'.w = w ∧ Adv B.ex B.W W' ∧ R (retVal ρ gs) W'
def retK (B : Base) (rs : List RV) (R : Value → PW → Prop) : Ex → Fr → GS → Prop
  | .exit _, _, _ => False
  | _, f, S => match resG f S rs with | some l => RetVC B l R S | none => False

/-- A block that the caller holds: its cells. -/
def OwnB (W : PW) (g : Nat) (vs : List Value) : Prop := (∃ e, W.w.heap[g]? = some (.cells ⟨vs⟩ e (0, 0))) ∧ ¬ W.A g
/-- A slice whose elements are never written again. -/
def SlRead (W : PW) (v : Value) (n : Nat) (cs : List Value) : Prop := ∃ A c, v = .slice A n c ∧ n ≤ c ∧ c ≤ maxLen ∧ (0 < n → ∃ a, A = some a ∧ Rds W a cs)
theorem SlRead.mono {W W' : PW} {v : Value} {n : Nat} {cs : List Value} (h : SlRead W v n cs) (l : W.Le W') : SlRead W' v n cs := by
  obtain ⟨A, c, h1, h2, h3, h4⟩ := h
  exact ⟨A, c, h1, h2, h3, fun hn => let ⟨a, e, hr⟩ := h4 hn; ⟨a, e, hr.mono l⟩⟩

section
variable {P : Program} {B : Base}

theorem CallsX.mono {fid : FuncId} {args : Array Value} {ex : List Nat} {W : PW} {R R' : Value → PW → Prop} (h : CallsX P fid args ex W R) (hr : ∀ v W', R v W' → R' v W') : CallsX P fid args ex W R' :=
  ⟨h.1, h.2.mono fun _ _ ⟨v, W', h1, h2, h3, h4⟩ => ⟨v, W', h1, h2, h3, hr _ _ h4⟩⟩
/-- The later world is known to be later. -/
theorem CallsX.after {fid : FuncId} {args : Array Value} {ex : List Nat} {W : PW} {R R' : Value → PW → Prop} (h : CallsX P fid args ex W R) (hr : ∀ v W', W.Le W' → R v W' → R' v W') : CallsX P fid args ex W R' :=
  ⟨h.1, h.2.mono fun _ _ ⟨v, W', h1, h2, h3, h4⟩ => ⟨v, W', h1, h2, h3, hr _ _ h3.le h4⟩⟩

theorem resG_run {N : Nat} {f : Fr} {S : GS} {ρ : Nat → Nat} {a : Act} {w : World} (hrel : Rel N ρ f S.σ.length a) (hst : St B ρ S w) : ∀ (l : List ResultVar) {rs : List RV} {gs : List GV}, resR P l = some rs → resG f S rs = some gs →
    (l.mapM fun (x : ResultVar) => (match x with
      | .tmp t => pure (a.tmps.getD t undef)
      | .cell c t => do loadVar t (← asAddr (a.tmps.getD c undef)) : Sem Value)).run P w = .ok (gs.map (GV.real ρ)) w ∧ gs.length = l.length
  | [], rs, gs, h, hg => by
    simp only [resR, Option.some.injEq] at h; subst h
    simp only [resG, Option.some.injEq] at hg; subst hg
    exact ⟨by simp, rfl⟩
  | .tmp t :: r, rs, gs, h, hg => by
    simp only [resR] at h
    split at h
    · rename_i l hl
      simp only [Option.some.injEq] at h; subst h
      simp only [resG] at hg
      split at hg
      · rename_i l' hl'
        simp only [Option.some.injEq] at hg; subst hg
        obtain ⟨h1, h2⟩ := resG_run hrel hst r hl hl'
        refine ⟨?_, by simp [h2]⟩
        have hv := hrel.val t
        simp only [List.mapM_cons, Sem.run_bind, Sem.run_pure, Result.andThen_ok, h1, List.map_cons, hv]
      · cases hg
    · cases h
  | .cell c ty :: r, rs, gs, h, hg => by
    simp only [resR] at h
    split at h
    · rename_i n l hn hl
      simp only [Option.some.injEq] at h; subst h
      simp only [resG] at hg
      split at hg
      · rename_i k l' hk hl'
        split at hg
        · rename_i cs hcs
          split at hg
          · rename_i hb
            simp only [Option.some.injEq] at hg; subst hg
            obtain ⟨h1, h2⟩ := resG_run hrel hst r hl hl'
            refine ⟨?_, by simp [h2]⟩
            have hv := hrel.val c
            rw [hk] at hv
            have hlen := Nat.eq_of_beq_eq_true hb
            have hld := run_loadAtN (P := P) hn (w := w) (a := ⟨ρ k, 0, none⟩) (cs := cs.map (PV.real ρ)) (by rw [List.length_map]; exact hlen) fun j v hj => by
              rw [List.getElem?_map] at hj
              cases hv' : cs[j]? with
              | none => rw [hv'] at hj; cases hj
              | some x =>
                rw [hv'] at hj
                simp only [Option.map_some, Option.some.injEq] at hj
                subst hj
                rw [add_lit, Nat.zero_add]
                exact hst.cell hcs hv'
            have hld' : (loadVar ty ⟨ρ k, 0, none⟩).run P w = .ok (.agg ⟨cs.map (PV.real ρ)⟩) w := by
              simpa [Instr.loadAt, Instr.sureAddr] using hld
            have hone : (do loadVar ty (← asAddr (a.tmps.getD c undef)) : Sem Value).run P w = .ok (.agg ⟨cs.map (PV.real ρ)⟩) w := by
              rw [hv]
              simp only [GV.real, asAddr, pure_bind]
              exact hld'
            rw [List.mapM_cons, Sem.run_bind]
            dsimp only
            rw [hone]
            simp only [Result.andThen_ok, Sem.run_bind, h1, Sem.run_pure, List.map_cons, GV.real]
          · cases hg
        · cases hg
      · cases hg
    · cases h

theorem retVal_run {fn : Func} {N : Nat} {f : Fr} {S : GS} {ρ : Nat → Nat} {a : Act} {w : World} (hrel : Rel N ρ f S.σ.length a) (hst : St B ρ S w) {rs : List RV} {gs : List GV} (h : resR P fn.results.toList = some rs) (hg : resG f S rs = some gs) :
    (results fn a.tmps).run P w = .ok (retVal ρ gs) w := by
  obtain ⟨h1, h2⟩ := resG_run hrel hst _ h hg
  have hm : (fn.results.mapM (fun (x : ResultVar) => (match x with
      | .tmp t => pure (a.tmps.getD t undef)
      | .cell c t => do loadVar t (← asAddr (a.tmps.getD c undef)) : Sem Value))).run P w = .ok ⟨gs.map (GV.real ρ)⟩ w := by
    rw [Array.mapM_eq_mapM_toList, map_eq_pure_bind, Sem.run_bind]
    rw [h1]
    simp only [Result.andThen_ok, Sem.run_pure]
  unfold results
  rw [Sem.run_bind]
  refine (congrArg (fun r => Result.andThen r _) hm).trans ?_
  simp only [Result.andThen_ok, Sem.run_pure]
  match gs with
  | [] => simp [retVal]
  | [g] => simp [retVal]
  | g :: g' :: r => simp [retVal]

theorem callsX_of_vc (hmix : P.follows .mixedOrders = true) {fid : FuncId} {fn : Func} {mf : MF} (hf : P.funcs[fid]? = some fn) (hm : resF P fn = some mf) (hname : (fn.name == "runtime.NumGoroutine") = false)
    (B : Base) (σ₀ : List (List PV)) (O₀ : List Own) (ρ₀ : Nat → Nat) (f₀ : Fr) (vals : List Value) (hst : St B ρ₀ ⟨σ₀, O₀, B.W⟩ B.W.w) (hrc : B.rc.length ≤ σ₀.length) (hlt : ∀ i, (f₀ i).lt σ₀.length)
    (hvals : ∀ i, vals.getD i undef = (f₀ i).real ρ₀) (hlen : vals.length ≤ mf.N) {R : Value → PW → Prop}
    (hvc : vc P B f₀ ⟨σ₀, O₀, B.W⟩ (retK B mf.rs R) mf.code) : CallsX P fid ⟨vals⟩ B.ex B.W R := by
  unfold resF at hm
  split at hm
  · rename_i c hb
    split at hm
    · rename_i mc rs hc hr
      simp only [Option.some.injEq] at hm
      subst hm
      refine ⟨⟨fn, hf, by rw [hb]; (first | done | rfl), hname⟩, calls_of_wp hf hb ?_⟩
      have hrel : Rel fn.ntmps ρ₀ f₀ σ₀.length { tmps := (⟨vals⟩ : Array Value) ++ Array.replicate (fn.ntmps - (⟨vals⟩ : Array Value).size) undef, defers := [] } := by
        have hlen' : vals.length ≤ fn.ntmps := hlen
        refine ⟨rfl, by simp; omega, fun i => ?_, hlt⟩
        rw [← hvals i]
        rcases Nat.lt_or_ge i vals.length with h1 | h1
        · simp [Array.getElem?_append, h1]
        · simp [Array.getElem?_append, Nat.not_lt.2 h1, Array.getElem?_replicate]
          split <;> rfl
      refine Code.wp_mono (fun e a w hq => ?_) (code_sound hmix hc (S₀ := ⟨σ₀, O₀, B.W⟩) (PW.Le.refl _) (Nat.le_refl _) hrc hrel hst hvc)
      have fin : ∀ f S ρ, Rel fn.ntmps ρ f S.σ.length a → St B ρ S w → (match resG f S rs with | some l => RetVC B l R S | none => False) →
          a.defers = [] ∧ ∃ v, (results fn a.tmps).run P w = .ok v w ∧ ∃ (v' : Value) (W' : PW), Ending.returned v = .returned v' ∧ w = W'.w ∧ Adv B.ex B.W W' ∧ R v' W' := by
        intro f S ρ h1 h2 h3
        split at h3
        · rename_i gs hgs
          obtain ⟨W', k1, k2, k3⟩ := h3.run ρ w h2
          exact ⟨h1.defers, _, retVal_run h1 h2 hr hgs, _, W', rfl, k1.symm, k2, k3⟩
        · exact h3.elim
      cases e with
      | normal => obtain ⟨f, S, ρ, _, _, h1, h2, h3⟩ := hq; exact fin f S ρ h1 h2 h3
      | ret => obtain ⟨f, S, ρ, _, _, h1, h2, h3⟩ := hq; exact fin f S ρ h1 h2 h3
      | exit id => obtain ⟨f, S, ρ, _, _, _, _, h3⟩ := hq; exact h3.elim
      | goto l => exact hq.elim
      | panic ch => exact hq.elim
      | outgrown => exact hq.elim
    · cases hm
  · cases hm

theorem St.init0 (W : PW) (ρ : Nat → Nat) : St ⟨W, [], []⟩ ρ ⟨[], [], W⟩ W.w :=
  ⟨Keep.refl _ _, Nat.le_refl _, fun _ _ => rfl, PW.Le.refl _, fun _ h => .inl h, fun k cs h => (by simp at h), fun k h => (by cases h), fun j k h => (by cases h), fun k cs h => (by simp at h), fun k g h => (by simp at h), fun i o h => (by simp at h), fun i j oi oj b h => (by simp at h)⟩

/-- A function that has no receiver of its own to write to. -/
theorem pureX (hmix : P.follows .mixedOrders = true) {fid : FuncId} {fn : Func} {mf : MF} (hf : P.funcs[fid]? = some fn) (hm : resF P fn = some mf) (hname : (fn.name == "runtime.NumGoroutine") = false) {W : PW} (vals : List Value) (hlen : Nat.ble vals.length mf.N = true) {R : Value → PW → Prop}
    (hvc : vc P ⟨W, [], []⟩ (initV vals) ⟨[], [], W⟩ (retK ⟨W, [], []⟩ mf.rs R) mf.code) : CallsX P fid ⟨vals⟩ [] W R :=
  callsX_of_vc hmix hf hm hname ⟨W, [], []⟩ [] [] id (initV vals) vals (St.init0 W id) (Nat.le_refl _) (fun _ => trivial) (fun _ => rfl) (ble_le hlen) hvc

theorem St.init1 {W : PW} {g : Nat} {vs : List Value} (h : OwnB W g vs) : St ⟨W, [g], [g]⟩ (fun _ => g) ⟨[vs.map .v], [], W⟩ W.w := by
  obtain ⟨⟨e, he⟩, hA⟩ := h
  refine ⟨Keep.refl _ _, Nat.le_refl _, fun _ _ => rfl, PW.Le.refl _, fun _ h => .inl h, fun k cs hk => ?_, fun k hk => ⟨hA, .inl (List.mem_singleton.2 rfl)⟩, fun j k hj hk _ => ?_, fun k cs hk c hc => ?_, fun k g' hk => ?_, fun i o hi => by simp at hi, fun i j oi oj b hi => by simp at hi⟩
  · cases k with
    | zero =>
      simp only [List.getElem?_cons_zero, Option.some.injEq] at hk
      subst hk
      exact ⟨e, by rw [PV.real_v]; exact he⟩
    | succ k => simp at hk
  · simp only [List.length_singleton] at hj hk; omega
  · cases k with
    | zero =>
      simp only [List.getElem?_cons_zero, Option.some.injEq] at hk
      subst hk
      obtain ⟨y, _, rfl⟩ := List.mem_map.1 hc; trivial
    | succ k => simp at hk
  · cases k with
    | zero =>
      simp only [List.getElem?_cons_zero, Option.some.injEq] at hk
      exact ⟨Nat.zero_lt_one, hk⟩
    | succ k => simp at hk

/-- A method: its receiver, of which it holds the cells, comes first. -/
theorem methX (hmix : P.follows .mixedOrders = true) {fid : FuncId} {fn : Func} {mf : MF} (hf : P.funcs[fid]? = some fn) (hm : resF P fn = some mf) (hname : (fn.name == "runtime.NumGoroutine") = false) {W : PW} {g : Nat} {vs : List Value} (hown : OwnB W g vs) (vals : List Value) (hlen : Nat.ble (vals.length + 1) mf.N = true) {R : Value → PW → Prop}
    (hvc : vc P ⟨W, [g], [g]⟩ (initM vals) ⟨[vs.map .v], [], W⟩ (retK ⟨W, [g], [g]⟩ mf.rs R) mf.code) : CallsX P fid ⟨.pointer (some ⟨g, 0, none⟩) :: vals⟩ [g] W R :=
  callsX_of_vc hmix hf hm hname ⟨W, [g], [g]⟩ _ [] (fun _ => g) (initM vals) _ (St.init1 hown) (Nat.le_refl _) (fun i => by cases i <;> first | exact Nat.zero_lt_one | trivial)
    (fun i => by cases i <;> rfl) (ble_le (by simpa using hlen)) hvc

def plainG : GV → Option Value
  | .v x => some x
  | .lp _ _ => none
  | .ag cs => match plainCells cs with | some l => some (.agg ⟨l⟩) | none => none
  | .clo f caps => match plainCells caps with | some l => some (.func (.func f) #[] ⟨l⟩) | none => none
  | .tp cs => match plainCells cs with | some l => some (.tuple ⟨l⟩) | none => none
def plainGs : List GV → Option (List Value)
  | [] => some []
  | g :: r => match plainG g, plainGs r with | some v, some l => some (v :: l) | _, _ => none
def plainRet : List GV → Option Value
  | [g] => plainG g
  | l => match plainGs l with | some l => some (.tuple ⟨l⟩) | none => none

theorem plainG_real {g : GV} {v : Value} (h : plainG g = some v) (ρ : Nat → Nat) : g.real ρ = v := by
  cases g with
  | v x => simpa [plainG, GV.real] using h
  | lp k o => cases h
  | ag cs =>
    simp only [plainG] at h
    split at h
    · rename_i l hl
      simp only [Option.some.injEq] at h; subst h
      simp only [GV.real, plain_real ρ hl]
    · cases h
  | clo f caps =>
    simp only [plainG] at h
    split at h
    · rename_i l hl
      simp only [Option.some.injEq] at h; subst h
      simp only [GV.real, plain_real ρ hl]
    · cases h
  | tp cs =>
    simp only [plainG] at h
    split at h
    · rename_i l hl
      simp only [Option.some.injEq] at h; subst h
      simp only [GV.real, plain_real ρ hl]
    · cases h
theorem plainGs_real : ∀ {gs : List GV} {vs : List Value}, plainGs gs = some vs → ∀ ρ, gs.map (GV.real ρ) = vs
  | [], vs, h, _ => by simp only [plainGs, Option.some.injEq] at h; subst h; (first | done | rfl)
  | g :: r, vs, h, ρ => by
    simp only [plainGs] at h
    split at h
    · rename_i v l hv hl
      simp only [Option.some.injEq] at h; subst h
      simp only [List.map_cons, plainG_real hv ρ, plainGs_real hl ρ]
    · cases h
theorem plainRet_real {gs : List GV} {v : Value} (h : plainRet gs = some v) (ρ : Nat → Nat) : retVal ρ gs = v := by
  match gs with
  | [] => simp only [plainRet, plainGs, Option.some.injEq] at h; subst h; (first | done | rfl)
  | [g] => exact plainG_real h ρ
  | g :: g' :: r =>
    simp only [plainRet] at h
    split at h
    · rename_i l hl
      simp only [Option.some.injEq] at h; subst h
      simp only [retVal, plainGs_real hl ρ]
    · cases h

variable {ρ : Nat → Nat} {S : GS} {w : World}
/-- The world at hand, with what is known never to be written. -/
def St.here (h : St B ρ S w) : PW := ⟨w, S.W.A, fun _ hb => h.A_lt hb, S.W.F, S.W.fa⟩
theorem St.le_here (h : St B ρ S w) : S.W.Le h.here := ⟨h.vsize, fun _ hb => hb, fun b hb => h.vblock b (S.W.fa b hb)⟩
theorem St.adv (h : St B ρ S w) : Adv B.ex B.W h.here := ⟨h.keep, h.mono.trans h.le_here, h.back⟩
theorem St.ownB (h : St B ρ S w) {k : Nat} {cs : List PV} {vs : List Value} (hk : S.σ[k]? = some cs) (hp : plainCells cs = some vs) : OwnB h.here (ρ k) vs := by
  obtain ⟨e, he⟩ := h.loc k cs hk
  rw [plain_real ρ hp] at he
  exact ⟨⟨e, he⟩, (h.locA k (List.getElem?_eq_some_iff.1 hk).1).1⟩

theorem ret_plain {gs : List GV} {v : Value} {R : Value → PW → Prop} (h : plainRet gs = some v) (hR : ∀ W', S.W.Le W' → R v W') : RetVC B gs R S :=
  ⟨fun ρ _ hst => ⟨hst.here, rfl, hst.adv, by rw [plainRet_real h ρ]; exact hR _ hst.le_here⟩⟩
/-- A method's return: what the receiver holds. -/
theorem ret_m1 {gs : List GV} {v : Value} {R : Value → PW → Prop} {g : Nat} {cs : List PV} {vs : List Value} (h : plainRet gs = some v) (hrc : B.rc[0]? = some g) (hk : S.σ[0]? = some cs) (hp : plainCells cs = some vs)
    (hR : ∀ W', S.W.Le W' → OwnB W' g vs → R v W') : RetVC B gs R S :=
  ⟨fun ρ _ hst => ⟨hst.here, rfl, hst.adv, by
    rw [plainRet_real h ρ]
    have := hst.ownB hk hp
    rw [(hst.rc 0 g hrc).2] at this
    exact hR _ hst.le_here this⟩⟩

theorem ownsRow_read {W : PW} {e : TypeId} {sz n : Nat} {v : Value} {cs : List Value} (h : W.w.ownsRow 0 e sz v n cs) (hA : ∀ b, v.ownBlock = some b → W.F b) : SlRead W v n cs := by
  rcases h.2 with ⟨rfl, rfl⟩ | ⟨g, cap, cur, rfl, _, hg, h1, h2, h3, h4⟩
  · exact ⟨none, 0, rfl, Nat.le_refl _, Nat.zero_le _, fun h => by omega⟩
  · refine ⟨_, cap, rfl, h1, h2, fun _ => ⟨_, rfl, fun j x hj => ⟨?_, ?_⟩⟩⟩
    · rw [add_lit]; exact hA g rfl
    · rw [add_lit, Nat.zero_add]
      rw [← h4, List.getElem?_take] at hj
      split at hj
      · simp [World.cell?, hg]
        rw [← Array.getElem?_toList]; exact hj
      · cases hj

/-- A slice that is owned is not written any more. -/
theorem St.freeze (h : St B ρ S w) (hex : ∀ b, b ∈ B.ex → b ∈ B.rc) {i : Nat} {o : Own} (hi : S.O[i]? = some o) : ∃ W', S.W.Le W' ∧ SlRead W' o.v o.n o.cs ∧ St B ρ ⟨S.σ, S.O.eraseIdx i, W'⟩ w := by
  obtain ⟨h1, h2⟩ := h.own i o hi
  have hle : S.W.Le ⟨w, fun b => S.W.A b ∨ o.v.ownBlock = some b, fun b hb => hb.elim (fun hA => h.A_lt hA) (fun hb => h.own_lt hi hb), fun b => S.W.F b ∨ o.v.ownBlock = some b, fun b hb => hb.elim (fun h => .inl (S.W.fa b h)) .inr⟩ := ⟨h.vsize, fun _ hb => .inl hb, fun b hb => h.vblock b (S.W.fa b hb)⟩
  have herase : ∀ (j : Nat) (oj : Own), (S.O.eraseIdx i)[j]? = some oj → ∃ j', j' ≠ i ∧ S.O[j']? = some oj ∧ j' = if j < i then j else j + 1 := by
    intro j oj hj
    rw [List.getElem?_eraseIdx] at hj
    by_cases hji : j < i
    · rw [if_pos hji] at hj; exact ⟨j, by omega, hj, by rw [if_pos hji]⟩
    · rw [if_neg hji] at hj; exact ⟨j + 1, by omega, hj, by rw [if_neg hji]⟩
  have hnew : ∀ b, o.v.ownBlock = some b → B.W.w.heap.size ≤ b := fun b hb => (h2 b hb).2.1.elim (fun he => by
    obtain ⟨k, hk⟩ := List.getElem?_of_mem (hex b he)
    obtain ⟨r1, r2⟩ := h.rc k b hk
    exact absurd r2 ((h2 b hb).2.2 k r1)) id
  refine ⟨_, hle, ownsRow_read h1 fun b hb => .inr hb, ⟨h.keep, Nat.le_refl _, fun _ _ => rfl, h.mono.trans hle, fun b hb => hb.elim (h.back b) fun hb => .inr (hnew b hb), h.loc, fun k hk => ⟨fun hA => ?_, (h.locA k hk).2⟩, h.inj, h.cells, h.rc, fun j oj hj => ?_, fun j k oj ok b hj hk hbj hbk => ?_⟩⟩
  · rcases hA with hA | hA
    · exact (h.locA k hk).1 hA
    · exact (h2 _ hA).2.2 k hk rfl
  · obtain ⟨j', hne, hj', _⟩ := herase j oj hj
    obtain ⟨g1, g2⟩ := h.own j' oj hj'
    exact ⟨g1, fun b hb => ⟨fun hA => hA.elim (g2 b hb).1 fun hb' => hne (h.sep j' i oj o b hj' hi hb hb'), (g2 b hb).2⟩⟩
  · obtain ⟨j', _, hj', ej⟩ := herase j oj hj
    obtain ⟨k', _, hk', ek⟩ := herase k ok hk
    have := h.sep j' k' oj ok b hj' hk' hbj hbk
    rw [ej, ek] at this
    split at this <;> split at this <;> omega

/-- A return of what is owned: it is not written any more. -/
theorem RetVC.freeze {gs : List GV} {R : Value → PW → Prop} (hex : ∀ b, b ∈ B.ex → b ∈ B.rc) {i : Nat} {o : Own} (hi : S.O[i]? = some o) (hR : ∀ W', S.W.Le W' → SlRead W' o.v o.n o.cs → RetVC B gs R ((S.setW W').modO fun O => O.eraseIdx i)) : RetVC B gs R S := by
  refine ⟨fun ρ w hst => ?_⟩
  obtain ⟨W', h1, h2, h3⟩ := hst.freeze hex hi
  exact (hR W' h1 h2).run ρ w h3

theorem St.grow (h : St B ρ S w) {W' : PW} (ha : Adv [] h.here W') : St B ρ ⟨S.σ, S.O, W'⟩ W'.w := by
  have hb : ∀ b, b < w.heap.size → W'.w.heap[b]? = w.heap[b]? := fun b hb => ha.keep.block b hb (by simp)
  refine ⟨h.keep.trans ⟨ha.keep.os, ha.keep.tape, ha.keep.output, ha.keep.size, fun b hb _ => ha.keep.block b hb (by simp)⟩, Nat.le_refl _, fun _ _ => rfl, h.mono.trans (h.le_here.trans ha.le), fun b hA => ?_, fun k cs hk => ?_, fun k hk => ⟨fun hA => ?_, (h.locA k hk).2⟩, h.inj, h.cells, h.rc, fun i o hi => ?_, h.sep⟩
  · rcases ha.back b hA with h1 | h1
    · exact h.back b h1
    · exact .inr (Nat.le_trans h.keep.size h1)
  · obtain ⟨e, he⟩ := h.loc k cs hk
    exact ⟨e, (hb _ (h.loc_lt (List.getElem?_eq_some_iff.1 hk).1)).trans he⟩
  · rcases ha.back _ hA with h1 | h1
    · exact (h.locA k hk).1 h1
    · have := h.loc_lt hk
      exact absurd h1 (by simp only [St.here]; omega)
  · obtain ⟨g1, g2⟩ := h.own i o hi
    refine ⟨g1.kept (row := none) ⟨ha.keep.os, ha.keep.tape, ha.keep.output, ha.keep.size, fun b hk _ => hb b hk⟩ (by cases o.v.ownBlock <;> simp), fun b hob => ⟨fun hA => ?_, (g2 b hob).2⟩⟩
    rcases ha.back _ hA with h1 | h1
    · exact (g2 b hob).1 h1
    · have := h.own_lt hi hob
      exact absurd h1 (by simp only [St.here]; omega)

/-- A call whose arguments are values, and that writes to nothing that stands. -/
theorem call_pure {fid : FuncId} {args : List GV} {vs : List Value} {prot : List Nat} {K : GV → GS → Prop} (hp : plainGs args = some vs) (hc : ∀ W', S.W.Le W' → CallsX P fid ⟨vs⟩ [] W' fun v W'' => W'.Le W'' → K (.v v) (S.setW W'')) : CallVC P B fid args prot S K := by
  refine ⟨(hc S.W (PW.Le.refl _)).1, fun ρ w hst => ?_⟩
  rw [plainGs_real hp ρ]
  refine (hc hst.here hst.le_here).2.mono fun e w' ⟨v, W', h1, h2, h3, h4⟩ => ?_
  subst h2
  exact ⟨.v v, ⟨S.σ, S.O, W'⟩, ρ, h1, fun _ _ => rfl, ⟨Nat.le_refl _, hst.le_here.trans h3.le, ⟨fun _ _ => rfl, fun _ _ _ h => h⟩⟩, trivial, hst.grow h3, h4 h3.le⟩

theorem St.lend (h : St B ρ S w) {ex : List Nat} {W' : PW} (ha : Adv ex h.here W') {σ' : List (List PV)} {O' : List Own} (hlen : σ'.length = S.σ.length)
    (hex : ∀ b ∈ ex, b ∈ B.ex ∨ B.W.w.heap.size ≤ b)
    (hσ : ∀ (k : Nat) (cs : List PV), σ'[k]? = some cs → (S.σ[k]? = some cs ∧ ρ k ∉ ex) ∨ ∃ vs : List Value, cs = vs.map .v ∧ OwnB W' (ρ k) vs)
    (hO : ∀ (i : Nat) (o : Own), O'[i]? = some o → ∃ j : Nat, S.O[j]? = some o ∧ ∀ b, o.v.ownBlock = some b → b ∉ ex)
    (hsep : ∀ (i j : Nat) (oi oj : Own) (b : Nat), O'[i]? = some oi → O'[j]? = some oj → oi.v.ownBlock = some b → oj.v.ownBlock = some b → i = j) : St B ρ ⟨σ', O', W'⟩ W'.w := by
  have hb : ∀ b, b < w.heap.size → b ∉ ex → W'.w.heap[b]? = w.heap[b]? := fun b hb hn => ha.keep.block b hb hn
  have hA : ∀ b, W'.A b → ¬ S.W.A b → w.heap.size ≤ b := fun b hb hn => (ha.back b hb).elim (fun h => absurd h hn) id
  refine ⟨⟨ha.keep.os.trans h.keep.os, ha.keep.tape.trans h.keep.tape, ha.keep.output.trans h.keep.output, Nat.le_trans h.keep.size ha.keep.size, fun b hb1 hb2 => ?_⟩, Nat.le_refl _, fun _ _ => rfl, h.mono.trans (h.le_here.trans ha.le), fun b hb1 => ?_, fun k cs hk => ?_, fun k hk => ⟨fun hk1 => ?_, ?_⟩, fun j k hj hk => h.inj j k (hlen ▸ hj) (hlen ▸ hk), fun k cs hk c hc => ?_, fun k g hk => ?_, fun i o hi => ?_, hsep⟩
  · have hne : b ∉ ex := fun he => (hex b he).elim hb2 fun h => by omega
    exact (hb b (Nat.lt_of_lt_of_le hb1 h.keep.size) hne).trans (h.keep.block b hb1 hb2)
  · rcases ha.back b hb1 with h1 | h1
    · exact h.back b h1
    · exact .inr (Nat.le_trans h.keep.size h1)
  · rcases hσ k cs hk with ⟨h1, h2⟩ | ⟨vs, rfl, h1, _⟩
    · obtain ⟨e, he⟩ := h.loc k cs h1
      exact ⟨e, (hb _ (h.loc_lt (List.getElem?_eq_some_iff.1 h1).1) h2).trans he⟩
    · obtain ⟨e, he⟩ := h1
      exact ⟨e, by rw [PV.real_v]; exact he⟩
  · have hk' : k < S.σ.length := hlen ▸ hk
    rcases hσ k _ (List.getElem?_eq_getElem hk) with ⟨h1, h2⟩ | ⟨vs, _, _, h1⟩
    · have := hA _ hk1 (h.locA k hk').1
      have := h.loc_lt hk'
      omega
    · exact h1 hk1
  · exact (h.locA k (hlen ▸ hk)).2
  · show c.lt σ'.length
    rw [hlen]
    rcases hσ k cs hk with ⟨h1, h2⟩ | ⟨vs, rfl, h1, _⟩
    · exact h.cells k cs h1 c hc
    · obtain ⟨y, _, rfl⟩ := List.mem_map.1 hc; trivial
  · have := h.rc k g hk
    exact ⟨by show k < σ'.length; rw [hlen]; exact this.1, this.2⟩
  · obtain ⟨j, hj, hne⟩ := hO i o hi
    obtain ⟨g1, g2⟩ := h.own j o hj
    refine ⟨?_, fun b hob => ⟨fun hk1 => ?_, (g2 b hob).2.1, fun k hk => (g2 b hob).2.2 k (hlen ▸ hk)⟩⟩
    · refine ⟨g1.1, g1.2.elim .inl fun ⟨g, cap, cur, e1, e2, e3, e4⟩ => .inr ⟨g, cap, cur, e1, e2, ?_, e4⟩⟩
      exact (hb g (Array.getElem?_eq_some_iff.1 e3).1 (hne g (by rw [e1]; (first | done | rfl)))).trans e3
    · have := hA _ hk1 (g2 b hob).1
      have := h.own_lt hj hob
      omega

theorem St.addOwn {σ : List (List PV)} {O : List Own} {W : PW} (h : St B ρ ⟨σ, O, W⟩ W.w) {o : Own} (ho : W.w.ownsRow 0 o.e o.sz o.v o.n o.cs)
    (hb : ∀ b, o.v.ownBlock = some b → ¬ W.A b ∧ (b ∈ B.ex ∨ B.W.w.heap.size ≤ b) ∧ (∀ k, k < σ.length → ρ k ≠ b) ∧ ∀ (j : Nat) (oj : Own), O[j]? = some oj → oj.v.ownBlock ≠ some b) : St B ρ ⟨σ, O ++ [o], W⟩ W.w := by
  have part : ∀ (j : Nat) (oj : Own), (O ++ [o])[j]? = some oj → (j = O.length ∧ oj = o) ∨ O[j]? = some oj := by
    intro j oj hj
    rcases Nat.lt_trichotomy j O.length with hlt | heq | hgt
    · rw [List.getElem?_append_left hlt] at hj; exact .inr hj
    · subst heq
      rw [List.getElem?_append_right (Nat.le_refl _), Nat.sub_self] at hj
      simp only [List.getElem?_cons_zero, Option.some.injEq] at hj
      exact .inl ⟨rfl, hj.symm⟩
    · rw [List.getElem?_eq_none (by simp; omega)] at hj; cases hj
  refine ⟨h.keep, h.vsize, h.vblock, h.mono, h.back, h.loc, h.locA, h.inj, h.cells, h.rc, fun i oi hi => ?_, fun i j oi oj b hi hj hbi hbj => ?_⟩
  · rcases part i oi hi with ⟨_, rfl⟩ | hi
    · exact ⟨ho, fun b hob => ⟨(hb b hob).1, (hb b hob).2.1, (hb b hob).2.2.1⟩⟩
    · exact h.own i oi hi
  · rcases part i oi hi with ⟨e1, f1⟩ | hi' <;> rcases part j oj hj with ⟨e2, f2⟩ | hj'
    · omega
    · exact absurd hbj ((hb b (f1 ▸ hbi)).2.2.2 j oj hj')
    · exact absurd hbi ((hb b (f2 ▸ hbj)).2.2.2 i oi hi')
    · exact h.sep i j oi oj b hi' hj' hbi hbj

/-- A slice that its holder may write, append to: its block is one of a list, or younger than a world. -/
def OwnS (xs : List Nat) (n₀ : Nat) (W : PW) (o : Own) : Prop := W.w.ownsRow 0 o.e o.sz o.v o.n o.cs ∧ ∀ b, o.v.ownBlock = some b → ¬ W.A b ∧ (b ∈ xs ∨ n₀ ≤ b)

theorem real_args {avs : List GV} {vs : List Value} (hp : plainGs avs = some vs) (k : Nat) (ρ : Nat → Nat) : (GV.lp k 0 :: avs).map (GV.real ρ) = .pointer (some ⟨ρ k, 0, none⟩) :: vs := by
  rw [List.map_cons, plainGs_real hp ρ]; (first | done | rfl)

/-- The call is lent one variable. -/
theorem call_m1 {fid : FuncId} {k : Nat} {avs : List GV} {vs xs : List Value} {cs : List PV} {prot : List Nat} {K : GV → GS → Prop} (hk : S.σ[k]? = some cs) (hx : plainCells cs = some xs) (hp : plainGs avs = some vs) (hn : prot.contains (k + 1) = false) (hcall : Callable P fid)
    (hc : ∀ g W', S.W.Le W' → OwnB W' g xs → CallsX P fid ⟨.pointer (some ⟨g, 0, none⟩) :: vs⟩ [g] W' fun v W'' => W'.Le W'' → ∃ xs', OwnB W'' g xs' ∧ K (.v v) ((S.setW W'').modσ fun σ => σ.set k (xs'.map .v))) : CallVC P B fid (.lp k 0 :: avs) prot S K := by
  refine ⟨hcall, fun ρ w hst => ?_⟩
  have hkl := (List.getElem?_eq_some_iff.1 hk).1
  rw [real_args hp]
  refine (hc (ρ k) hst.here hst.le_here (hst.ownB hk hx)).2.mono fun e w' ⟨v, W', h1, h2, h3, h4⟩ => ?_
  subst h2
  obtain ⟨xs', h5, h6⟩ := h4 h3.le
  refine ⟨.v v, ⟨S.σ.set k (xs'.map .v), S.O, W'⟩, ρ, h1, fun _ _ => rfl, ⟨by simp, hst.le_here.trans h3.le, ⟨fun j hj => ?_, fun _ _ _ h => h⟩⟩, trivial, hst.lend h3 (by simp) (fun b hb => ?_) (fun j cs' hj => ?_) (fun i o hi => ⟨i, hi, fun b hb he => ?_⟩) hst.sep, h6⟩
  · have : k ≠ j := fun e => by subst e; exact not_mem_of hn hj
    exact List.getElem?_set_ne this
  · rw [List.mem_singleton.1 hb]; exact (hst.locA k hkl).2
  · by_cases e : k = j
    · subst e
      rw [List.getElem?_set_self hkl] at hj
      simp only [Option.some.injEq] at hj
      exact .inr ⟨xs', hj.symm, h5⟩
    · rw [List.getElem?_set_ne e] at hj
      refine .inl ⟨hj, fun he => ?_⟩
      exact e (hst.inj j k (List.getElem?_eq_some_iff.1 hj).1 hkl (List.mem_singleton.1 he)).symm
  · exact ((hst.own i o hi).2 b hb).2.2 k hkl (List.mem_singleton.1 he).symm

theorem erase_mem {O : List Own} {i : Nat} : ∀ (j : Nat) (oj : Own), (O.eraseIdx i)[j]? = some oj → ∃ j', j' ≠ i ∧ O[j']? = some oj ∧ j' = if j < i then j else j + 1 := by
  intro j oj hj
  rw [List.getElem?_eraseIdx] at hj
  by_cases hji : j < i
  · rw [if_pos hji] at hj; exact ⟨j, by omega, hj, by rw [if_pos hji]⟩
  · rw [if_neg hji] at hj; exact ⟨j + 1, by omega, hj, by rw [if_neg hji]⟩
theorem erase_sep (h : St B ρ S w) {i : Nat} : ∀ (j k : Nat) (oj ok : Own) (b : Nat), (S.O.eraseIdx i)[j]? = some oj → (S.O.eraseIdx i)[k]? = some ok → oj.v.ownBlock = some b → ok.v.ownBlock = some b → j = k := by
  intro j k oj ok b hj hk hbj hbk
  obtain ⟨j', _, hj', ej⟩ := erase_mem j oj hj
  obtain ⟨k', _, hk', ek⟩ := erase_mem k ok hk
  have := h.sep j' k' oj ok b hj' hk' hbj hbk
  rw [ej, ek] at this
  split at this <;> split at this <;> omega

/-- The same slices in another order, or fewer. -/
theorem St.reO {σ : List (List PV)} {O O' : List Own} {W : PW} (h : St B ρ ⟨σ, O, W⟩ w) (f : Nat → Nat) (hf : ∀ (i : Nat) (o : Own), O'[i]? = some o → O[f i]? = some o) (hinj : ∀ (i j : Nat) (o p : Own), O'[i]? = some o → O'[j]? = some p → f i = f j → i = j) : St B ρ ⟨σ, O', W⟩ w :=
  ⟨h.keep, h.vsize, h.vblock, h.mono, h.back, h.loc, h.locA, h.inj, h.cells, h.rc, fun i o hi => h.own (f i) o (hf i o hi), fun i j oi oj b hi hj hbi hbj => hinj i j oi oj hi hj (h.sep (f i) (f j) oi oj b (hf i oi hi) (hf j oj hj) hbi hbj)⟩
theorem St.setBack {O : List Own} {i : Nat} {o o' : Own} (hi : O[i]? = some o) {σ : List (List PV)} {W : PW} (h : St B ρ ⟨σ, O.eraseIdx i ++ [o'], W⟩ w) : St B ρ ⟨σ, O.set i o', W⟩ w := by
  have hlt := (List.getElem?_eq_some_iff.1 hi).1
  have hel : (O.eraseIdx i).length = O.length - 1 := List.length_eraseIdx_of_lt hlt
  refine h.reO (fun j => if j < i then j else if j = i then O.length - 1 else j - 1) (fun j p hj => ?_) (fun j k p q hj hk e => ?_)
  · have hjl : j < O.length := by have := (List.getElem?_eq_some_iff.1 hj).1; simpa using this
    by_cases h1 : j < i
    · rw [if_pos h1, List.getElem?_append_left (by omega), List.getElem?_eraseIdx, if_pos h1]
      rwa [List.getElem?_set_ne (by omega)] at hj
    · rw [if_neg h1]
      by_cases h2 : j = i
      · subst h2
        rw [if_pos rfl, List.getElem?_append_right (by omega), hel, Nat.sub_self]
        rw [List.getElem?_set_self hlt] at hj
        simpa using hj
      · rw [if_neg h2, List.getElem?_append_left (by omega), List.getElem?_eraseIdx, if_neg (by omega), show j - 1 + 1 = j by omega]
        rwa [List.getElem?_set_ne (by omega)] at hj
  · have hjl : j < O.length := by have := (List.getElem?_eq_some_iff.1 hj).1; simpa using this
    have hkl : k < O.length := by have := (List.getElem?_eq_some_iff.1 hk).1; simpa using this
    split at e <;> split at e <;> (try split at e) <;> (try split at e) <;> omega

/-- The call is lent one slice, and answers one. -/
theorem call_O {fid : FuncId} {args : List GV} {vs : List Value} {i : Nat} {o : Own} {prot : List Nat} {K : GV → GS → Prop} (hp : plainGs args = some vs) (hi : S.O[i]? = some o) (h0 : prot.contains 0 = false) (hcall : Callable P fid)
    (hc : ∀ W', S.W.Le W' → OwnS o.v.ownBlock.toList W'.w.heap.size W' o → CallsX P fid ⟨vs⟩ o.v.ownBlock.toList W' fun v W'' => W'.Le W'' → ∃ o', OwnS o.v.ownBlock.toList W'.w.heap.size W'' o' ∧ K (.v v) ((S.setW W'').modO fun O => O.set i o')) : CallVC P B fid args prot S K := by
  refine ⟨hcall, fun ρ w hst => ?_⟩
  obtain ⟨ho1, ho2⟩ := hst.own i o hi
  rw [plainGs_real hp ρ]
  refine (hc hst.here hst.le_here ⟨ho1, fun b hb => ⟨(ho2 b hb).1, .inl (by rw [hb]; simp)⟩⟩).2.mono fun e w' ⟨v, W', h1, h2, h3, h4⟩ => ?_
  subst h2
  obtain ⟨o', h5, h6⟩ := h4 h3.le
  have hmem : ∀ b, b ∈ o.v.ownBlock.toList → o.v.ownBlock = some b := fun b hb => by simpa using hb
  have hst' := hst.lend (σ' := S.σ) (O' := S.O.eraseIdx i) h3 rfl (fun b hb => (ho2 b (hmem b hb)).2.1) (fun k cs hk => .inl ⟨hk, fun he => (ho2 _ (hmem _ he)).2.2 k (List.getElem?_eq_some_iff.1 hk).1 rfl⟩)
    (fun j oj hj => by
      obtain ⟨j', hne, hj', _⟩ := erase_mem j oj hj
      exact ⟨j', hj', fun b hb he => hne (hst.sep j' i oj o b hj' hi hb (hmem b he))⟩) (erase_sep hst)
  refine ⟨.v v, ⟨S.σ, S.O.set i o', W'⟩, ρ, h1, fun _ _ => rfl, ⟨Nat.le_refl _, hst.le_here.trans h3.le, ⟨fun _ _ => rfl, fun h => absurd h (not_mem_of h0)⟩⟩, trivial, (St.setBack hi · ) <| hst'.addOwn h5.1 fun b hob => ?_, h6⟩
  refine ⟨(h5.2 b hob).1, ?_⟩
  rcases (h5.2 b hob).2 with hb | hb
  · have hb := hmem b hb
    refine ⟨(ho2 b hb).2.1, (ho2 b hb).2.2, fun j oj hj e => ?_⟩
    obtain ⟨j', hne, hj', _⟩ := erase_mem j oj hj
    exact hne (hst.sep j' i oj o b hj' hi e hb)
  · have hb : w.heap.size ≤ b := hb
    refine ⟨.inr (Nat.le_trans hst.keep.size hb), fun k hk e => ?_, fun j oj hj e => ?_⟩
    · have := hst.loc_lt hk; omega
    · obtain ⟨j', hne, hj', _⟩ := erase_mem j oj hj
      have := hst.own_lt hj' e; omega

/-- The call is lent one variable and one slice, and answers a slice. -/
theorem call_m1O {fid : FuncId} {k : Nat} {avs : List GV} {vs xs : List Value} {cs : List PV} {i : Nat} {o : Own} {prot : List Nat} {K : GV → GS → Prop} (hk : S.σ[k]? = some cs) (hx : plainCells cs = some xs) (hp : plainGs avs = some vs) (hi : S.O[i]? = some o) (hn : prot.contains (k + 1) = false) (h0 : prot.contains 0 = false) (hcall : Callable P fid)
    (hc : ∀ g W', S.W.Le W' → OwnB W' g xs → OwnS o.v.ownBlock.toList W'.w.heap.size W' o → g ∉ o.v.ownBlock.toList → CallsX P fid ⟨.pointer (some ⟨g, 0, none⟩) :: vs⟩ (g :: o.v.ownBlock.toList) W' fun v W'' => W'.Le W'' →
      ∃ xs' o', OwnB W'' g xs' ∧ OwnS o.v.ownBlock.toList W'.w.heap.size W'' o' ∧ K (.v v) (((S.setW W'').modO fun O => O.set i o').modσ fun σ => σ.set k (xs'.map .v))) : CallVC P B fid (.lp k 0 :: avs) prot S K := by
  refine ⟨hcall, fun ρ w hst => ?_⟩
  have hkl := (List.getElem?_eq_some_iff.1 hk).1
  obtain ⟨ho1, ho2⟩ := hst.own i o hi
  have hmem : ∀ b, b ∈ o.v.ownBlock.toList → o.v.ownBlock = some b := fun b hb => by simpa using hb
  rw [real_args hp]
  refine (hc (ρ k) hst.here hst.le_here (hst.ownB hk hx) ⟨ho1, fun b hb => ⟨(ho2 b hb).1, .inl (by rw [hb]; simp)⟩⟩ (fun he => (ho2 _ (hmem _ he)).2.2 k hkl rfl)).2.mono fun e w' ⟨v, W', h1, h2, h3, h4⟩ => ?_
  subst h2
  obtain ⟨xs', o', h5, h6, h7⟩ := h4 h3.le
  have hst' := hst.lend (σ' := S.σ.set k (xs'.map .v)) (O' := S.O.eraseIdx i) h3 (by simp)
    (fun b hb => by
      rcases List.mem_cons.1 hb with rfl | hb
      · exact (hst.locA k hkl).2
      · exact (ho2 b (hmem b hb)).2.1)
    (fun j cs' hj => by
      by_cases e : k = j
      · subst e
        rw [List.getElem?_set_self hkl] at hj
        simp only [Option.some.injEq] at hj
        exact .inr ⟨xs', hj.symm, h5⟩
      · rw [List.getElem?_set_ne e] at hj
        have hjl := (List.getElem?_eq_some_iff.1 hj).1
        refine .inl ⟨hj, fun he => ?_⟩
        rcases List.mem_cons.1 he with he | he
        · exact e (hst.inj j k hjl hkl he).symm
        · exact (ho2 _ (hmem _ he)).2.2 j hjl rfl)
    (fun j oj hj => by
      obtain ⟨j', hne, hj', _⟩ := erase_mem j oj hj
      refine ⟨j', hj', fun b hb he => ?_⟩
      rcases List.mem_cons.1 he with rfl | he
      · exact ((hst.own j' oj hj').2 _ hb).2.2 k hkl rfl
      · exact hne (hst.sep j' i oj o b hj' hi hb (hmem b he))) (erase_sep hst)
  refine ⟨.v v, ⟨S.σ.set k (xs'.map .v), S.O.set i o', W'⟩, ρ, h1, fun _ _ => rfl, ⟨by simp, hst.le_here.trans h3.le, ⟨fun j hj => ?_, fun h => absurd h (not_mem_of h0)⟩⟩, trivial, (St.setBack hi · ) <| hst'.addOwn h6.1 fun b hob => ?_, h7⟩
  · have : k ≠ j := fun e => by subst e; exact not_mem_of hn hj
    exact List.getElem?_set_ne this
  · refine ⟨(h6.2 b hob).1, ?_⟩
    rcases (h6.2 b hob).2 with hb | hb
    · have hb := hmem b hb
      refine ⟨(ho2 b hb).2.1, fun j hj => (ho2 b hb).2.2 j (by simpa using hj), fun j oj hj e => ?_⟩
      obtain ⟨j', hne, hj', _⟩ := erase_mem j oj hj
      exact hne (hst.sep j' i oj o b hj' hi e hb)
    · have hb : w.heap.size ≤ b := hb
      refine ⟨.inr (Nat.le_trans hst.keep.size hb), fun j hj e => ?_, fun j oj hj e => ?_⟩
      · have := hst.loc_lt (k := j) (by simpa using hj); omega
      · obtain ⟨j', hne, hj', _⟩ := erase_mem j oj hj
        have := hst.own_lt hj' e; omega

end
end Go.Proofs.YtcgbcbdgjhnlaaaGreat

namespace Go.Proofs.YtcgbcbdgjhnlaaaGreat
open Go.RowKit

theorem br_split {p : Prop} {d : Decidable p} {X Y : Prop} (h1 : p → X) (h2 : ¬ p → Y) : Branch X Y (@decide p d) := by
  by_cases h : p
  · rw [decide_eq_true h]; exact h1 h
  · rw [decide_eq_false h]; exact h2 h
theorem br_nsplit {p : Prop} {d : Decidable p} {X Y : Prop} (h1 : ¬ p → X) (h2 : p → Y) : Branch X Y (!@decide p d) := by
  by_cases h : p
  · rw [decide_eq_true h]; exact h2 h
  · rw [decide_eq_false h]; exact h1 h
theorem br_bool {b : Bool} {X Y : Prop} (h1 : b = true → X) (h2 : b = false → Y) : Branch X Y b := by
  cases b
  · exact h2 rfl
  · exact h1 rfl
theorem br_yes {p : Prop} {d : Decidable p} {X Y : Prop} (h : p) (h1 : X) : Branch X Y (@decide p d) := br_split (fun _ => h1) (fun n => absurd h n)
theorem br_no {p : Prop} {d : Decidable p} {X Y : Prop} (h : ¬ p) (h1 : Y) : Branch X Y (@decide p d) := br_split (fun n => absurd n h) (fun _ => h1)

theorem i64_in (n : Int) (h : -9223372036854775808 ≤ n ∧ n ≤ 9223372036854775807) : IntKind.i64.wrap n = n := by rw [IntKind.wrap_i64]; omega
theorem hmix : Tryz.prog.follows .mixedOrders = true := by kernel_rfl

section
variable {P : Program} {B : Base} {ρ : Nat → Nat} {S : GS} {w : World}

/-- The call's answer is plain, what is known of worlds holds on. -/
theorem CallsX.adv {fid : FuncId} {args : Array Value} {ex : List Nat} {W : PW} {R : Value → PW → Prop} (h : CallsX P fid args ex W R) : CallsX P fid args ex W fun v W' => W.Le W' ∧ R v W' := h.after fun _ _ hl hr => ⟨hl, hr⟩

/-- A call that is answered by one value. -/
theorem call_v {fid : FuncId} {args : List GV} {vs : List Value} {prot : List Nat} {K : GV → GS → Prop} {R : PW → Value → PW → Prop} (hp : plainGs args = some vs) (hc : ∀ W', S.W.Le W' → CallsX P fid ⟨vs⟩ [] W' (R W')) (hK : ∀ W' v W'', S.W.Le W' → W'.Le W'' → R W' v W'' → K (.v v) (S.setW W'')) : CallVC P B fid args prot S K :=
  call_pure hp fun W' h => (hc W' h).after fun v W'' hl hr _ => hK W' v W'' h hl hr

/-- What is handed out is owned by the caller from now on. -/
theorem ret_own {gs : List GV} {v : Value} {R : Value → PW → Prop} {xs : List Nat} {i : Nat} {o : Own} (hex : B.ex = B.rc ++ xs) (h : plainRet gs = some v) (hi : S.O[i]? = some o) (hR : ∀ W', S.W.Le W' → OwnS xs B.W.w.heap.size W' o → R v W') : RetVC B gs R S :=
  ⟨fun ρ _ hst => ⟨hst.here, rfl, hst.adv, by
    rw [plainRet_real h ρ]
    obtain ⟨h1, h2⟩ := hst.own i o hi
    refine hR _ hst.le_here ⟨h1, fun b hb => ⟨(h2 b hb).1, ?_⟩⟩
    rcases (h2 b hb).2.1 with h3 | h3
    · rw [hex] at h3
      rcases List.mem_append.1 h3 with h3 | h3
      · obtain ⟨k, hk⟩ := List.getElem?_of_mem h3
        obtain ⟨r1, r2⟩ := hst.rc k b hk
        exact absurd r2 ((h2 b hb).2.2 k r1)
      · exact .inl h3
    · exact .inr h3⟩⟩
/-- A method hands out what is owned. -/
theorem ret_m1own {gs : List GV} {v : Value} {R : Value → PW → Prop} {g : Nat} {cs : List PV} {vs : List Value} {xs : List Nat} {i : Nat} {o : Own} (hex : B.ex = B.rc ++ xs) (h : plainRet gs = some v) (hrc : B.rc[0]? = some g) (hk : S.σ[0]? = some cs) (hp : plainCells cs = some vs) (hi : S.O[i]? = some o)
    (hR : ∀ W', S.W.Le W' → OwnB W' g vs → OwnS xs B.W.w.heap.size W' o → R v W') : RetVC B gs R S := by
  refine ⟨fun ρ w hst => ?_⟩
  have hb := hst.ownB hk hp
  rw [(hst.rc 0 g hrc).2] at hb
  exact ⟨hst.here, rfl, hst.adv, by
    rw [plainRet_real h ρ]
    obtain ⟨h1, h2⟩ := hst.own i o hi
    refine hR _ hst.le_here hb ⟨h1, fun b hb => ⟨(h2 b hb).1, ?_⟩⟩
    rcases (h2 b hb).2.1 with h3 | h3
    · rw [hex] at h3
      rcases List.mem_append.1 h3 with h3 | h3
      · obtain ⟨k, hk⟩ := List.getElem?_of_mem h3
        obtain ⟨r1, r2⟩ := hst.rc k b hk
        exact absurd r2 ((h2 b hb).2.2 k r1)
      · exact .inl h3
    · exact .inr h3⟩

theorem St.init0O {W : PW} {o : Own} (h : OwnS o.v.ownBlock.toList W.w.heap.size W o) (ρ : Nat → Nat) : St ⟨W, o.v.ownBlock.toList, []⟩ ρ ⟨[], [o], W⟩ W.w := by
  refine ⟨Keep.refl _ _, Nat.le_refl _, fun _ _ => rfl, PW.Le.refl _, fun _ h => .inl h, fun k cs h => (by simp at h), fun k h => (by cases h), fun j k h => (by cases h), fun k cs h => (by simp at h), fun k g h => (by simp at h), fun i oi hi => ?_, fun i j oi oj b hi hj _ _ => ?_⟩
  · cases i with
    | zero =>
      simp only [List.getElem?_cons_zero, Option.some.injEq] at hi
      subst hi
      exact ⟨h.1, fun b hb => ⟨(h.2 b hb).1, (h.2 b hb).2, fun k hk => (by cases hk)⟩⟩
    | succ i => simp at hi
  · cases i <;> cases j <;> simp_all

theorem St.init1O {W : PW} {g : Nat} {vs : List Value} {o : Own} (hg : OwnB W g vs) (h : OwnS o.v.ownBlock.toList W.w.heap.size W o) (hne : g ∉ o.v.ownBlock.toList) : St ⟨W, g :: o.v.ownBlock.toList, [g]⟩ (fun _ => g) ⟨[vs.map .v], [o], W⟩ W.w := by
  have h0 := St.init1 hg
  refine ⟨Keep.refl _ _, Nat.le_refl _, fun _ _ => rfl, PW.Le.refl _, fun _ h => .inl h, h0.loc, fun k hk => ⟨hg.2, .inl (List.mem_cons_self ..)⟩, h0.inj, h0.cells, h0.rc, fun i oi hi => ?_, fun i j oi oj b hi hj _ _ => ?_⟩
  · cases i with
    | zero =>
      simp only [List.getElem?_cons_zero, Option.some.injEq] at hi
      subst hi
      refine ⟨h.1, fun b hb => ⟨(h.2 b hb).1, (h.2 b hb).2.imp (List.mem_cons_of_mem _) id, fun k hk e => hne ?_⟩⟩
      rw [e, hb]; simp
    | succ i => simp at hi
  · cases i <;> cases j <;> simp_all

theorem ownX (hmix : P.follows .mixedOrders = true) {fid : FuncId} {fn : Func} {mf : MF} (hf : P.funcs[fid]? = some fn) (hm : resF P fn = some mf) (hname : (fn.name == "runtime.NumGoroutine") = false) {W : PW} {o : Own} (ho : OwnS o.v.ownBlock.toList W.w.heap.size W o) (vals : List Value) (hlen : Nat.ble vals.length mf.N = true) {R : Value → PW → Prop}
    (hvc : vc P ⟨W, o.v.ownBlock.toList, []⟩ (initV vals) ⟨[], [o], W⟩ (retK ⟨W, o.v.ownBlock.toList, []⟩ mf.rs R) mf.code) : CallsX P fid ⟨vals⟩ o.v.ownBlock.toList W R :=
  callsX_of_vc hmix hf hm hname ⟨W, o.v.ownBlock.toList, []⟩ [] [o] id (initV vals) vals (St.init0O ho id) (Nat.le_refl _) (fun _ => trivial) (fun _ => rfl) (ble_le hlen) hvc

theorem methOX (hmix : P.follows .mixedOrders = true) {fid : FuncId} {fn : Func} {mf : MF} (hf : P.funcs[fid]? = some fn) (hm : resF P fn = some mf) (hname : (fn.name == "runtime.NumGoroutine") = false) {W : PW} {g : Nat} {vs : List Value} {o : Own} (hown : OwnB W g vs) (ho : OwnS o.v.ownBlock.toList W.w.heap.size W o) (hne : g ∉ o.v.ownBlock.toList) (vals : List Value) (hlen : Nat.ble (vals.length + 1) mf.N = true) {R : Value → PW → Prop}
    (hvc : vc P ⟨W, g :: o.v.ownBlock.toList, [g]⟩ (initM vals) ⟨[vs.map .v], [o], W⟩ (retK ⟨W, g :: o.v.ownBlock.toList, [g]⟩ mf.rs R) mf.code) : CallsX P fid ⟨.pointer (some ⟨g, 0, none⟩) :: vals⟩ (g :: o.v.ownBlock.toList) W R :=
  callsX_of_vc hmix hf hm hname ⟨W, g :: o.v.ownBlock.toList, [g]⟩ _ [o] (fun _ => g) (initM vals) _ (St.init1O hown ho hne) (Nat.le_refl _) (fun i => by cases i <;> first | exact Nat.zero_lt_one | trivial)
    (fun i => by cases i <;> rfl) (ble_le (by simpa using hlen)) hvc

def AllSl (f : Fr) : List (Nat × GV) → Prop
  | [] => True
  | p :: r => f p.1 = p.2 ∧ AllSl f r
theorem all_sl {f : Fr} : ∀ {l : List (Nat × GV)}, AllSl f l → ∀ p, p ∈ l → f p.1 = p.2
  | [], _, p, h => by cases h
  | a :: r, hl, p, h => (List.mem_cons.1 h).elim (fun e => e ▸ hl.1) (all_sl hl.2 p)
def SlOK (n : Nat) (wr : List (Nat × Nat)) : List (Nat × GV) → Prop
  | [] => True
  | p :: r => (p.2.lt n ∧ inR wr p.1 = true) ∧ SlOK n wr r
theorem slOK_mem {n : Nat} {wr : List (Nat × Nat)} : ∀ {l : List (Nat × GV)}, SlOK n wr l → ∀ p, p ∈ l → p.2.lt n ∧ inR wr p.1 = true
  | [], _, p, h => by cases h
  | a :: r, hl, p, h => (List.mem_cons.1 h).elim (fun e => e ▸ hl.1) (slOK_mem hl.2 p)
/-- Variables that hold values alone. -/
def valsB : List PV → Bool
  | [] => true
  | .v _ :: r => valsB r
  | .lp _ _ :: _ => false
def allVals : List (List PV) → Bool
  | [] => true
  | l :: r => valsB l && allVals r
theorem valsB_lt {n : Nat} : ∀ {l : List PV}, valsB l = true → ∀ c, c ∈ l → c.lt n
  | [], _, c, h => by cases h
  | .v x :: r, hl, c, h => (List.mem_cons.1 h).elim (fun e => by subst e; trivial) (valsB_lt (by simpa [valsB] using hl) c)
  | .lp _ _ :: _, hl, c, h => by simp [valsB] at hl
theorem allVals_lt {n : Nat} : ∀ {l : List (List PV)}, allVals l = true → ∀ cs, cs ∈ l → ∀ c, c ∈ cs → c.lt n
  | [], _, cs, h => by cases h
  | a :: r, hl, cs, h => by
    simp only [allVals, Bool.and_eq_true] at hl
    exact (List.mem_cons.1 h).elim (fun e => e ▸ valsB_lt hl.1) (allVals_lt hl.2 cs)
theorem loopOK {n : Nat} {wr : List (Nat × Nat)} {τ : Type} {sl : τ → List (Nat × GV)} {σ : τ → List (List PV)} (h1 : ∀ t, SlOK n wr (sl t)) (h2 : ∀ t, (σ t).length = n) (h3 : ∀ t, allVals (σ t) = true) : LoopOK n wr sl σ :=
  fun t => ⟨slOK_mem (h1 t), h2 t, allVals_lt (h3 t)⟩
theorem ole_refl (O : List Own) : OLe O O := List.filter_sublist
theorem ole_nils {O : List Own} (h : O.all Own.isNil = true) : OLe [] O := by
  have : O.filter (fun o => !o.isNil) = [] := List.filter_eq_nil_iff.2 fun o ho => by simp [List.all_eq_true.1 h o ho]
  unfold OLe; rw [this]; exact List.Sublist.refl _
def nilO (e : TypeId) (sz : Nat) : Own := ⟨.slice none 0 0, e, sz, 0, []⟩

/-- A function that will append to slices that are nil: these are owned. -/
theorem pureNX (hmix : P.follows .mixedOrders = true) {fid : FuncId} {fn : Func} {mf : MF} (hf : P.funcs[fid]? = some fn) (hm : resF P fn = some mf) (hname : (fn.name == "runtime.NumGoroutine") = false) {W : PW} (O : List Own) (hO : O.all Own.isNil = true) (vals : List Value) (hlen : Nat.ble vals.length mf.N = true) {R : Value → PW → Prop}
    (hvc : vc P ⟨W, [], []⟩ (initV vals) ⟨[], O, W⟩ (retK ⟨W, [], []⟩ mf.rs R) mf.code) : CallsX P fid ⟨vals⟩ [] W R :=
  callsX_of_vc hmix hf hm hname ⟨W, [], []⟩ [] O id (initV vals) vals ((St.init0 W id).ole (ole_nils hO)) (Nat.le_refl _) (fun _ => trivial) (fun _ => rfl) (ble_le hlen) hvc
theorem methNX (hmix : P.follows .mixedOrders = true) {fid : FuncId} {fn : Func} {mf : MF} (hf : P.funcs[fid]? = some fn) (hm : resF P fn = some mf) (hname : (fn.name == "runtime.NumGoroutine") = false) {W : PW} {g : Nat} {vs : List Value} (hown : OwnB W g vs) (O : List Own) (hO : O.all Own.isNil = true) (vals : List Value) (hlen : Nat.ble (vals.length + 1) mf.N = true) {R : Value → PW → Prop}
    (hvc : vc P ⟨W, [g], [g]⟩ (initM vals) ⟨[vs.map .v], O, W⟩ (retK ⟨W, [g], [g]⟩ mf.rs R) mf.code) : CallsX P fid ⟨.pointer (some ⟨g, 0, none⟩) :: vals⟩ [g] W R :=
  callsX_of_vc hmix hf hm hname ⟨W, [g], [g]⟩ _ O (fun _ => g) (initM vals) _ ((St.init1 hown).ole (ole_nils hO)) (Nat.le_refl _) (fun i => by cases i <;> first | exact Nat.zero_lt_one | trivial)
    (fun i => by cases i <;> rfl) (ble_le (by simpa using hlen)) hvc

theorem SlRead.get {W W' : PW} {A : Option Addr} {n c : Nat} {cs : List Value} (h : SlRead W (.slice A n c) n cs) (l : W.Le W') {j : Int} (hj : 0 ≤ j ∧ j < n) (sz : Nat) :
    ∃ a, A = some a ∧ (∀ (off : Nat) (v : Value), cs[j.toNat * sz + off]? = some v → Rd W' ((a.add (j.toNat * sz)).add off) v) ∧ ∀ v, cs[j.toNat * sz]? = some v → Rd W' (a.add (j.toNat * sz)) v := by
  obtain ⟨A', c', e, h1, h2, h3⟩ := h
  simp only [Value.slice.injEq] at e
  obtain ⟨rfl, _, rfl⟩ := e
  obtain ⟨a, ha, hr⟩ := h3 (by omega)
  refine ⟨a, ha, fun off v hv => ?_, fun v hv => (hr _ v hv).mono l⟩
  rw [Addr.add_add]
  exact (hr _ v hv).mono l
theorem SlRead.form {W : PW} {v : Value} {n : Nat} {cs : List Value} (h : SlRead W v n cs) : ∃ A c, v = .slice A n c ∧ n ≤ c ∧ c ≤ maxLen := by
  obtain ⟨A, c, e, h1, h2, _⟩ := h; exact ⟨A, c, e, h1, h2⟩
theorem SlRead.nil (W : PW) (cs : List Value) : SlRead W (.slice none 0 0) 0 cs := ⟨none, 0, rfl, Nat.le_refl _, Nat.zero_le _, fun h => absurd h (Nat.lt_irrefl 0)⟩
theorem SlRead.of_rds {W : PW} {b n : Nat} {cs : List Value} (h : Rds W ⟨b, 0, none⟩ cs) (hn : n ≤ maxLen) : SlRead W (.slice (some ⟨b, 0, none⟩) n n) n cs :=
  ⟨_, _, rfl, Nat.le_refl _, hn, fun _ => ⟨_, rfl, h⟩⟩

def strV (l : List UInt8) : Value := .string ⟨⟨l⟩⟩
def RStrs (W : PW) (v : Value) (ls : List (List UInt8)) : Prop := SlRead W v ls.length (ls.map strV)
theorem RStrs.mono {W W' : PW} {v : Value} {ls : List (List UInt8)} (h : RStrs W v ls) (l : W.Le W') : RStrs W' v ls := SlRead.mono h l

end
end Go.Proofs.YtcgbcbdgjhnlaaaGreat

namespace Go.Proofs.YtcgbcbdgjhnlaaaGreat
open Go.RowKit

def PW.all (W : World) : PW := ⟨W, fun b => b < W.heap.size, fun _ h => h, fun b => b < W.heap.size, fun _ h => h⟩

section
variable {P : Program} {B : Base} {ρ : Nat → Nat} {S : GS} {w : World}

/-- A contract that leaves all that lay below as it was. -/
theorem CallsX.of_below {fid : FuncId} {args : Array Value} {W : PW} {R : Value → Prop} (hcall : Callable P fid) (h : Calls P fid args W.w fun e w' => ∃ v, e = .returned v ∧ Below W.w.heap.size W.w w' ∧ R v) : CallsX P fid args [] W fun r _ => R r :=
  ⟨hcall, h.mono fun _ w' ⟨v, he, hb, hr⟩ => ⟨v, ⟨w', W.A, fun b hA => Nat.lt_of_lt_of_le (W.lt b hA) hb.size, W.F, W.fa⟩, he, rfl,
    ⟨⟨hb.os, hb.tape, hb.output, hb.size, fun b hb1 _ => hb.block b hb1⟩, ⟨hb.size, fun _ h => h, fun b hA => hb.block b (W.lt b (W.fa b hA))⟩, fun _ h => .inl h⟩, hr⟩⟩
theorem CallsX.of_same {fid : FuncId} {args : Array Value} {W : PW} {v : Value} (hcall : Callable P fid) (h : Calls P fid args W.w fun e w' => e = .returned v ∧ w' = W.w) : CallsX P fid args [] W fun r _ => r = v :=
  CallsX.of_below hcall (h.mono fun _ _ ⟨he, hw⟩ => ⟨v, he, hw ▸ Below.refl _ _, rfl⟩)
/-- The world as it stands: nothing of it is written. -/
theorem St.le_all (h : St B ρ S w) : S.W.Le (PW.all w) := ⟨h.vsize, fun b hb => h.A_lt (S.W.fa b hb), fun b hb => h.vblock b (S.W.fa b hb)⟩
theorem St.own_all (h : St B ρ S w) {i : Nat} {o : Own} (hi : S.O[i]? = some o) : SlRead (PW.all w) o.v o.n o.cs :=
  ownsRow_read (W := PW.all w) (h.own i o hi).1 fun _ hb => h.own_lt hi hb
/-- What is owned is not written any more, from a call on. -/
theorem CallVC.freeze {fid : FuncId} {args : List GV} {prot : List Nat} {K : GV → GS → Prop} (hex : ∀ b, b ∈ B.ex → b ∈ B.rc) (h0 : prot.contains 0 = false) {i : Nat} {o : Own} (hi : S.O[i]? = some o)
    (hcall : Callable P fid) (hR : ∀ W', S.W.Le W' → SlRead W' o.v o.n o.cs → CallVC P B fid args prot ((S.setW W').modO fun O => O.eraseIdx i) K) : CallVC P B fid args prot S K := by
  refine ⟨hcall, fun ρ w hst => ?_⟩
  obtain ⟨W', h1, h2, h3⟩ := hst.freeze hex hi
  refine ((hR W' h1 h2).run ρ w h3).mono fun e w' ⟨g, S', ρ', k1, k2, k3, k4, k5, k6⟩ => ?_
  exact ⟨g, S', ρ', k1, k2, ⟨k3.len, h1.trans k3.le, ⟨k3.prot.var, fun h => absurd h (not_mem_of h0)⟩⟩, k4, k5, k6⟩

theorem flat_get {α : Type} {f : α → List Value} {sz : Nat} (hf : ∀ x, (f x).length = sz) : ∀ {xs : List α} {j : Nat} {x : α} {off : Nat}, xs[j]? = some x → off < sz → ((xs.map f).flatten)[j * sz + off]? = (f x)[off]?
  | [], j, x, off, h, _ => by simp at h
  | a :: xs, 0, x, off, h, ho => by
    simp only [List.getElem?_cons_zero, Option.some.injEq] at h
    subst h
    simp only [List.map_cons, List.flatten_cons, Nat.zero_mul, Nat.zero_add]
    exact List.getElem?_append_left (by rw [hf]; exact ho)
  | a :: xs, j + 1, x, off, h, ho => by
    rw [List.getElem?_cons_succ] at h
    simp only [List.map_cons, List.flatten_cons]
    rw [List.getElem?_append_right (by rw [hf, Nat.add_mul]; omega), hf, show (j + 1) * sz + off - sz = j * sz + off by rw [Nat.add_mul]; omega]
    exact flat_get hf h ho
theorem flat_snoc {α : Type} (f : α → List Value) (xs : List α) (x : α) : ((xs ++ [x]).map f).flatten = (xs.map f).flatten ++ f x := by simp
theorem flat_one {α : Type} {f : α → List Value} (h : ∀ x, ∀ u ∈ f x, u.oneCell' = true) (xs : List α) : ∀ u ∈ (xs.map f).flatten, u.oneCell' = true := by
  intro u hu
  obtain ⟨l, hl, hu⟩ := List.mem_flatten.1 hu
  obtain ⟨x, _, rfl⟩ := List.mem_map.1 hl
  exact h x u hu
/-- A slice of such elements, which is never written again. -/
def RP {α : Type} (f : α → List Value) (W : PW) (v : Value) (xs : List α) : Prop := SlRead W v xs.length (xs.map f).flatten
theorem RP.mono {α : Type} {f : α → List Value} {W W' : PW} {v : Value} {xs : List α} (h : RP f W v xs) (l : W.Le W') : RP f W' v xs := SlRead.mono h l
theorem RP.form {α : Type} {f : α → List Value} {W : PW} {v : Value} {xs : List α} (h : RP f W v xs) : ∃ A c, v = .slice A xs.length c ∧ xs.length ≤ c ∧ c ≤ maxLen := SlRead.form h
theorem RP.nil {α : Type} (f : α → List Value) (W : PW) : RP f W (.slice none 0 0) [] := SlRead.nil W _
/-- The cells of an element. -/
theorem RP.at {α : Type} {f : α → List Value} {sz : Nat} (hf : ∀ x, (f x).length = sz) {W W' : PW} {A : Option Addr} {n c : Nat} {xs : List α} (h : RP f W (.slice A n c) xs) (l : W.Le W') {j : Int} (hj : 0 ≤ j ∧ j < n) :
    ∃ a, A = some a ∧ ∃ x, xs[j.toNat]? = some x ∧ (∀ (off : Nat) (v : Value), (f x)[off]? = some v → Rd W' ((a.add (j.toNat * sz)).add off) v) ∧ (0 < sz → ∀ v, (f x)[0]? = some v → Rd W' (a.add (j.toNat * sz)) v) ∧ Rds W' (a.add (j.toNat * sz)) (f x) := by
  obtain ⟨A', c', e, h1, h2, h3⟩ := h
  simp only [Value.slice.injEq] at e
  obtain ⟨rfl, rfl, rfl⟩ := e
  obtain ⟨a, ha, hr⟩ := h3 (by omega)
  have hlt : j.toNat < xs.length := by omega
  have hg := List.getElem?_eq_getElem hlt
  have key : ∀ (off : Nat) (v : Value), (f xs[j.toNat])[off]? = some v → ((xs.map f).flatten)[j.toNat * sz + off]? = some v := fun off v hv => by
    have : off < sz := by have := (List.getElem?_eq_some_iff.1 hv).1; rw [hf] at this; exact this
    rw [flat_get hf hg this]; exact hv
  have all : ∀ (off : Nat) (v : Value), (f xs[j.toNat])[off]? = some v → Rd W' ((a.add (j.toNat * sz)).add off) v := fun off v hv => by
    rw [Addr.add_add]; exact (hr _ v (key off v hv)).mono l
  refine ⟨a, ha, _, hg, all, fun hs v hv => (hr _ v (key 0 v hv)).mono l, all⟩
/-- A part of a slice. -/
theorem SlRead.cut {W : PW} {A : Option Addr} {n c : Nat} {cs : List Value} (h : SlRead W (.slice A n c) n cs) (sz : Nat) {l m : Nat} (h1 : l ≤ m) (h2 : m ≤ n) :
    SlRead W (.slice (if c = l then A else A.map (·.add (l * sz))) (m - l) (c - l)) (m - l) ((cs.drop (l * sz)).take ((m - l) * sz)) := by
  obtain ⟨A', c', e, h3, h4, h5⟩ := h
  simp only [Value.slice.injEq] at e
  obtain ⟨rfl, _, rfl⟩ := e
  refine ⟨_, _, rfl, by omega, by omega, fun h0 => ?_⟩
  obtain ⟨a, rfl, hr⟩ := h5 (by omega)
  refine ⟨a.add (l * sz), by rw [if_neg (by omega)]; (first | done | rfl), fun j v hj => ?_⟩
  rw [Addr.add_add]
  refine hr _ v ?_
  rw [List.getElem?_take] at hj
  split at hj
  · rw [List.getElem?_drop] at hj; exact hj
  · cases hj
theorem flat_drop {α : Type} {f : α → List Value} {sz : Nat} (hf : ∀ x, (f x).length = sz) : ∀ (xs : List α) (l : Nat), ((xs.map f).flatten).drop (l * sz) = ((xs.drop l).map f).flatten
  | xs, 0 => by simp
  | [], l + 1 => by simp
  | a :: xs, l + 1 => by
    have := flat_drop hf xs l
    simp only [List.map_cons, List.flatten_cons, List.drop_succ_cons]
    rw [← this, List.drop_append, List.drop_eq_nil_of_le (by rw [hf, Nat.add_mul]; omega), List.nil_append, hf, Nat.add_mul, Nat.one_mul, Nat.add_sub_cancel]
theorem flat_take {α : Type} {f : α → List Value} {sz : Nat} (hf : ∀ x, (f x).length = sz) : ∀ (xs : List α) (l : Nat), ((xs.map f).flatten).take (l * sz) = ((xs.take l).map f).flatten
  | xs, 0 => by simp
  | [], l + 1 => by simp
  | a :: xs, l + 1 => by
    have := flat_take hf xs l
    simp only [List.map_cons, List.flatten_cons, List.take_succ_cons]
    rw [← this, List.take_append, List.take_of_length_le (by rw [hf, Nat.add_mul]; omega), hf, Nat.add_mul, Nat.one_mul, Nat.add_sub_cancel]
theorem RP.cut {α : Type} {f : α → List Value} {sz : Nat} (hf : ∀ x, (f x).length = sz) {W : PW} {A : Option Addr} {n c : Nat} {xs : List α} (h : RP f W (.slice A n c) xs) {l m : Nat} (h1 : l ≤ m) (h2 : m ≤ xs.length) :
    RP f W (.slice (if c = l then A else A.map (·.add (l * sz))) (m - l) (c - l)) ((xs.drop l).take (m - l)) := by
  have hn : n = xs.length := by obtain ⟨_, _, e, _⟩ := h; simp only [Value.slice.injEq] at e; exact e.2.1
  subst hn
  have := SlRead.cut h sz h1 h2
  rw [flat_drop hf, flat_take hf] at this
  have hl : ((xs.drop l).take (m - l)).length = m - l := by simp; omega
  unfold RP
  rw [hl]; exact this

theorem ole_eq {O O' : List Own} (h : O = O') : OLe O O' := h ▸ ole_refl O
end
end Go.Proofs.YtcgbcbdgjhnlaaaGreat

namespace Go.Proofs.YtcgbcbdgjhnlaaaGreat
open Go.RowKit

section
variable {P : Program} {B : Base}
theorem vcMI_mono {mi : MI} {f : Fr} {prot : List Nat} {S : GS} {K K' : Fr → GS → Prop} (h : ∀ f' S', K f' S' → K' f' S') (hv : vcMI P B f prot S K mi) : vcMI P B f prot S K' mi := by
  refine vcMI_mk ?_
  rcases vcMI_cases hv with ⟨h1, hv⟩ | ⟨s, want, b, h1, hb, hv⟩ | ⟨s, want, vs, h1, hb, hv⟩
  · exact .inl ⟨h1, vcOp_mono (fun _ _ => h _ _) hv⟩
  · refine .inr (.inl ⟨s, want, b, h1, hb, ?_⟩)
    rcases hv with ⟨h2, hv⟩ | ⟨h2, hv⟩
    · exact .inl ⟨h2, vcOp_mono (fun _ _ => h _ _) hv⟩
    · exact .inr ⟨h2, h _ _ hv⟩
  · exact .inr (.inr ⟨s, want, vs, h1, hb, h _ _ hv⟩)
theorem vcOps_mono : ∀ {l : List MI} {f : Fr} {S : GS} {K K' : Fr → GS → Prop}, (∀ f' S', K f' S' → K' f' S') → vcOps P B f S K l → vcOps P B f S K' l
  | [], _, _, _, _, h, hv => h _ _ hv
  | _ :: _, _, _, _, _, h, hv => vcMI_mono (fun _ _ hk => vcOps_mono h hk) hv
theorem vcZ_mono : ∀ {t : DT} {pend : List (Nat × List Nat)} {f : Fr} {S : GS} {K K' : Fr → GS → Prop}, (∀ f' S', K f' S' → K' f' S') → vcZ P B pend f S K t → vcZ P B pend f S K' t
  | .nil, _, _, _, _, _, h, hv => h _ _ hv
  | .op i m r, pend, f, S, K, K', h, hv => by
    simp only [vcZ] at hv ⊢
    cases hq : isQ m.op <;> simp only [hq] at hv ⊢
    · exact vcMI_mono (fun _ _ hk => vcZ_mono h hk) hv
    · cases hz : isLdM m.op <;> simp only [hz] at hv ⊢
      · exact vcMI_mono (fun _ _ hk => vcZ_mono h hk) hv
      · exact vcMI_mono (fun _ _ hk => hk.imp (fun hk => vcZ_mono h hk) fun hk => ⟨hk.1, vcZ_mono h hk.2⟩) hv
  | .both _ _, _, _, _, _, _, h, hv => ⟨vcZ_mono h hv.1, vcZ_mono h hv.2⟩
  | .z _, _, _, _, _, _, _, hv => hv.elim
theorem vcD_mono : ∀ {t : DT} {pend : List (Nat × List Nat)} {f : Fr} {S : GS} {K K' : Fr → GS → Prop}, (∀ f' S', K f' S' → K' f' S') → vcD P B pend f S K t → vcD P B pend f S K' t
  | .nil, _, _, _, _, _, h, hv => h _ _ hv
  | .op i m r, pend, f, S, K, K', h, hv => by
    simp only [vcD] at hv ⊢
    cases hq : isQ m.op <;> simp only [hq] at hv ⊢
    all_goals exact vcMI_mono (fun _ _ hk => vcD_mono h hk) hv
  | .both _ _, _, _, _, _, _, h, hv => ⟨vcD_mono h hv.1, vcD_mono h hv.2⟩
  | .z _, _, _, _, _, _, h, hv => vcZ_mono h hv
theorem vc_mono : ∀ {c : MC} {f : Fr} {S : GS} {K K' : Ex → Fr → GS → Prop}, (∀ e f' S', K e f' S' → K' e f' S') → vc P B f S K c → vc P B f S K' c
  | .skip, f, S, K, K', h, hv => h _ f S hv
  | .ops l, f, S, K, K', h, hv => vcOps_mono (h .normal) hv
  | .dops t, f, S, K, K', h, hv => vcD_mono (h .normal) hv
  | .seq a b, f, S, K, K', h, hv => by
    refine vc_mono (c := a) (fun e f' S' hk => ?_) hv
    cases e with
    | normal => exact vc_mono h hk
    | exit id => exact h _ _ _ hk
    | ret => exact h _ _ _ hk
  | .cond c a b, f, S, K, K', h, hv => by
    simp only [vc] at hv ⊢
    split at hv
    · exact Branch.mono (vc_mono h) (vc_mono h) hv
    · exact hv.elim
  | .block id a, f, S, K, K', h, hv => by
    refine vc_mono (c := a) (fun e f' S' hk => ?_) hv
    cases e with
    | normal => exact h _ _ _ hk
    | exit i =>
      dsimp only at hk ⊢
      cases hb : Nat.beq i id <;> rw [hb] at hk <;> exact h _ _ _ hk
    | ret => exact h _ _ _ hk
  | .loop w a, f, S, K, K', h, hv => by
    obtain ⟨τ, sl, σ, O, I, μ, t₀, h1, h2, h3, h4, h5, h6⟩ := hv
    refine ⟨τ, sl, σ, O, I, μ, t₀, h1, h2, h3, h4, h5, fun t W hW hI g => ?_⟩
    refine vc_mono (fun e f' S' hk => ?_) (h6 t W hW hI g)
    cases e with
    | normal => exact hk
    | exit id => exact h _ _ _ hk
    | ret => exact h _ _ _ hk
  | .exit id, f, S, K, K', h, hv => h _ f S hv
  | .ret, f, S, K, K', h, hv => h _ f S hv
  | .scope a, f, S, K, K', h, hv => vc_mono (c := a) h hv
def cutK (K : Ex → Fr → GS → Prop) (Q : Fr → GS → Prop) : Ex → Fr → GS → Prop
  | .normal, f, S => Q f S
  | .exit id, f, S => K (.exit id) f S
  | .ret, f, S => K .ret f S
/-- Behind a piece of code: what holds there, and that it is enough. -/
theorem vc_cut {f : Fr} {S : GS} {K : Ex → Fr → GS → Prop} {a b : MC} (Q : Fr → GS → Prop) (h1 : vc P B f S (cutK K Q) a) (h2 : ∀ f' S', Q f' S' → vc P B f' S' K b) : vc P B f S K (.seq a b) := by
  refine vc_mono (c := a) (fun e f' S' hk => ?_) h1
  cases e with
  | normal => exact h2 _ _ hk
  | exit id => exact hk
  | ret => exact hk
theorem vc_assoc {f : Fr} {S : GS} {K : Ex → Fr → GS → Prop} {a b c : MC} (h : vc P B f S K (.seq (.seq a b) c)) : vc P B f S K (.seq a (.seq b c)) := by
  refine vc_mono (c := a) (fun e f' S' hk => ?_) h
  cases e with
  | normal => exact hk
  | exit id => exact hk
  | ret => exact hk
theorem vc_rassoc {f : Fr} {S : GS} {K : Ex → Fr → GS → Prop} {a b c : MC} (h : vc P B f S K (.seq a (.seq b c))) : vc P B f S K (.seq (.seq a b) c) := by
  refine vc_mono (c := a) (fun e f' S' hk => ?_) h
  cases e with
  | normal => exact hk
  | exit id => exact hk
  | ret => exact hk
theorem setL_all : ∀ {l : List (Nat × GV)} {fr : Fr}, AllSl fr l → setL l fr = fr
  | [], _, _ => rfl
  | (d, g) :: r, fr, h => by
    show upd (setL r fr) d g = fr
    rw [setL_all h.2]
    funext i
    unfold upd
    cases hb : Nat.beq i d with
    | false => rfl
    | true => rw [Nat.eq_of_beq_eq_true hb]; exact h.1.symm
/-- The slots that are known. -/
theorem vc_at {fr : Fr} {S : GS} {K : Ex → Fr → GS → Prop} {c : MC} (l : List (Nat × GV)) (h : AllSl fr l) (hvc : vc P B (setL l fr) S K c) : vc P B fr S K c := by
  rw [setL_all h] at hvc; exact hvc
end
end Go.Proofs.YtcgbcbdgjhnlaaaGreat
