/- A region that draws its order: the walk of the tree of orders is one of every order. -/
import Derived.Test.YtcgbcbdgjhnlaaaDraw
namespace Go.Proofs.Ytcgbcbdgjhnlaaa
open Go.RowKit

section
variable {P : Program} {N : Nat} {ops : Array Oper} {ps : List (List Nat)}

theorem joinD_some : ∀ {l : List (Option DT)} {t : DT}, joinD l = some t → ∀ x ∈ l, ∃ t', x = some t'
  | [], t, h, x, hx => by cases hx
  | [y], t, h, x, hx => by
    rcases List.mem_cons.1 hx with rfl | hx
    · exact ⟨t, h⟩
    · cases hx
  | y :: z :: r, t, h, x, hx => by
    simp only [joinD] at h
    split at h
    · rename_i a b h2
      rcases List.mem_cons.1 hx with rfl | hx
      · exact ⟨a, rfl⟩
      · exact joinD_some h2 x hx
    · cases h
theorem joinD_canon {Q' : Act → World → Prop} {pend : Pend} {a : Act} {w : World} : ∀ {l : List (Option DT)} {t : DT}, joinD l = some t → Canon P ops Q' t pend a w → ∀ t', some t' ∈ l → Canon P ops Q' t' pend a w
  | [], t, h, _, t', hx => by cases hx
  | [y], t, h, hc, t', hx => by
    rcases List.mem_cons.1 hx with e | hx
    · simp only [joinD] at h; rw [← e] at h; simp only [Option.some.injEq] at h; rw [h]; exact hc
    · cases hx
  | y :: z :: r, t, h, hc, t', hx => by
    simp only [joinD] at h
    split at h
    · rename_i p q h1 h2
      simp only [Option.some.injEq] at h
      subst h
      rcases List.mem_cons.1 hx with e | hx
      · simp only [Option.some.injEq] at e; subst e; exact hc.1
      · exact joinD_canon h2 hc.2 t' hx
    · cases h

theorem ready1_iff {before : List Nat} {i : Nat} : ready1 ops before i = true ↔ i ∉ before ∧ ∀ j ∈ directs ops i, j ∈ before := by
  simp [ready1, List.all_eq_true]

theorem resDI_spec {i : Nat} {m : MI} (h : resDI P N ops ps i = some m) : ∃ o past, ops[i]? = some o ∧ resMI P N ops o past = some m ∧ m.op = resOp P o ∧ (isQ m.op = false → ∀ q ∈ m.past, q ∈ ps.getD i []) := by
  unfold resDI at h
  split at h
  · rename_i o ho
    obtain ⟨_, h2, h3, _⟩ := resMI_spec h
    refine ⟨o, _, ho, h, h2, fun hq q hm => ?_⟩
    rw [h2] at hq
    rw [h3, hq] at hm
    simp only [cond_false] at hm
    exact (List.mem_filter.1 hm).1
  · cases h

/-- What the tree says at its root. -/
theorem dtree_cases {k : Nat} {before : List Nat} {t : DT} (h : dtree P N ops ps (k + 1) before = some t) :
    (∃ i m r, i < ops.size ∧ ready1 ops before i = true ∧ isQat P ops i = true ∧ resDI P N ops ps i = some m ∧ dtree P N ops ps k (i :: before) = some r ∧ t = .op i m r) ∨
    ((∀ i, i < ops.size → ready1 ops before i = true → isQat P ops i = false) ∧
      joinD (((List.range ops.size).filter (ready1 ops before)).map fun i => match resDI P N ops ps i, dtree P N ops ps k (i :: before) with
      | some m, some r => some (.op i m r)
      | _, _ => none) = some t) := by
  simp only [dtree] at h
  split at h
  · rename_i i hf
    have h1 := List.find?_some hf
    have h2 := List.mem_range.1 (List.mem_of_find?_eq_some hf)
    simp only [Bool.and_eq_true] at h1
    split at h
    · rename_i m r hm hr
      simp only [Option.some.injEq] at h
      exact .inl ⟨i, m, r, h2, h1.1, h1.2, hm, hr, h.symm⟩
    · cases h
  · rename_i hf
    refine .inr ⟨fun i hi hr => ?_, h⟩
    have := List.find?_eq_none.1 hf i (List.mem_range.2 hi)
    simp only [hr, Bool.true_and, Bool.not_eq_true] at this
    exact this

theorem isQat_op {i : Nat} {m : MI} (h : resDI P N ops ps i = some m) : isQat P ops i = isQ m.op := by
  obtain ⟨o, past, ho, _, hop, _⟩ := resDI_spec h
  simp [isQat, ho, hop]

/-- What the walk has in hand: all that has been carried out, by the walk (E), by the order that was drawn (D). -/
structure Sim (P : Program) (ops : Array Oper) (a₀ : Act) (E D : List (Nat × Value)) (pend : Pend) (ac a : Act) (listed : Array Bool) (w : World) : Prop where
  ra : RA ops a₀ a D
  rc : RA ops a₀ ac E
  sub : ∀ p ∈ D, p ∈ E
  ne : (idx E).Nodup
  nd : (idx D).Nodup
  lsz : listed.size = ops.size
  lis : ∀ i, i < ops.size → (listed[i]? = some true ↔ i ∈ idx D)
  bd : ∀ i ∈ idx E, i < ops.size
  clE : Closed ops (idx E)
  clD : Closed ops (idx D)
  hold : ∀ i v, (i, v) ∈ E → i ∉ idx D → ∃ aq F o, ops[i]? = some o ∧ (i, v, aq) ∈ pend ∧ YW P ops o v aq w ∧ RA ops a₀ aq F ∧ (∀ p ∈ F, p ∈ E) ∧ (∀ j, Past ops j i → j ∈ idx F) ∧ (∀ j, Past ops i j → j ∉ idx F)

/-- The walk takes all that only reads and may come. -/
theorem saturate (g : Good ops) {Q' : Act → World → Prop} {a₀ a : Act} {D : List (Nat × Value)} {listed : Array Bool} {w : World} : ∀ (k : Nat) {E : List (Nat × Value)} {pend : Pend} {ac : Act} {t : DT},
    Sim P ops a₀ E D pend ac a listed w → dtree P N ops ps k (idx E) = some t → Canon P ops Q' t pend ac w →
    ∃ (k' : Nat) (E' : List (Nat × Value)) (pend' : Pend) (ac' : Act) (t' : DT), Sim P ops a₀ E' D pend' ac' a listed w ∧ dtree P N ops ps k' (idx E') = some t' ∧ Canon P ops Q' t' pend' ac' w ∧
      (∀ i, i < ops.size → ready1 ops (idx E') i = true → isQat P ops i = false)
  | 0, E, pend, ac, t, hs, ht, hc => by
    refine ⟨0, E, pend, ac, t, hs, ht, hc, fun i hi hr => ?_⟩
    simp only [dtree] at ht
    obtain ⟨hb, _⟩ := bif_some ht
    simp only [List.all_eq_true, List.mem_range] at hb
    have h1 := hb i hi
    have h2 := (ready1_iff.1 hr).1
    simp at h1
    exact absurd h1 h2
  | k + 1, E, pend, ac, t, hs, ht, hc => by
    rcases dtree_cases ht with ⟨i, m, r, hi, hr, hq, hm, hr', rfl⟩ | ⟨hno, hj⟩
    · obtain ⟨o, ho, hv⟩ := hc
      have hqm : isQ m.op = true := by rw [← isQat_op hm]; exact hq
      simp only [hqm] at hv
      obtain ⟨v, hy, hc'⟩ := hv
      obtain ⟨hn, hd⟩ := ready1_iff.1 hr
      refine saturate g k (E := (i, v) :: E) ⟨hs.ra, hs.rc.put ho v, fun p hp => List.mem_cons_of_mem _ (hs.sub p hp), ?_, hs.nd, hs.lsz, hs.lis, ?_, ?_, hs.clD, ?_⟩ hr' hc'
      · simp only [idx, List.map_cons, List.nodup_cons]; exact ⟨hn, hs.ne⟩
      · intro j hj
        rcases List.mem_cons.1 hj with rfl | hj
        · exact hi
        · exact hs.bd j hj
      · intro j hj x hx
        rcases List.mem_cons.1 hj with rfl | hj
        · exact List.mem_cons_of_mem _ (hd x hx)
        · exact List.mem_cons_of_mem _ (hs.clE j hj x hx)
      · intro j u hju hjD
        rcases List.mem_cons.1 hju with e | hju
        · simp only [Prod.mk.injEq] at e
          obtain ⟨rfl, rfl⟩ := e
          exact ⟨ac, E, o, ho, List.mem_cons_self .., hy, hs.rc, fun p hp => List.mem_cons_of_mem _ hp, fun x hx => past_of_ready hs.clE hd hx, fun x hx hxE => hn (hs.clE.past hx hxE)⟩
        · obtain ⟨aq, F, oq, h1, h2, h3, h4, h5, h6, h7⟩ := hs.hold j u hju hjD
          exact ⟨aq, F, oq, h1, List.mem_cons_of_mem _ h2, h3, h4, fun p hp => List.mem_cons_of_mem _ (h5 p hp), h6, h7⟩
    · exact ⟨k + 1, E, pend, ac, t, hs, ht, hc, hno⟩

theorem listed_get {listed : Array Bool} {i : Nat} (hi : i < listed.size) (d : Bool) : listed.getD i d = true ↔ listed[i]? = some true := by
  simp [hi]

theorem any_of_canon (g : Good ops) (hps : ∀ i j, j ∈ ps.getD i [] → Past ops j i) {Q : Exit → Act → World → Prop} {a₀ : Act} : ∀ (fuel : Nat) {k : Nat} {E D : List (Nat × Value)} {pend : Pend} {ac a : Act} {listed : Array Bool} {w : World} {t : DT},
    fuel + D.length = ops.size → Sim P ops a₀ E D pend ac a listed w → dtree P N ops ps k (idx E) = some t → Canon P ops (Q .normal) t pend ac w →
    (∀ i, i < ops.size → ready1 ops (idx E) i = true → isQat P ops i = false) → wpAny P .any ops Q fuel listed a w := by
  have mdir : ∀ {j : Nat} {o : Oper} {x : Nat}, ops[j]? = some o → (x ∈ directs ops j ↔ ∃ e ∈ o.after, Region.binds .any e = true ∧ e.on = x) := by
    intro j o x ho
    simp only [directs, ho, List.mem_filterMap]
    constructor
    · rintro ⟨e, he, h⟩
      cases hb : Region.binds .any e <;> simp only [hb, cond_true, cond_false, reduceCtorEq, Option.some.injEq] at h
      exact ⟨e, Array.mem_toList_iff.1 he, hb, h⟩
    · rintro ⟨e, he, hb, rfl⟩
      exact ⟨e, Array.mem_toList_iff.2 he, by simp [hb]⟩
  have rdy : ∀ {E D : List (Nat × Value)} {pend : Pend} {ac a : Act} {listed : Array Bool} {w : World}, Sim P ops a₀ E D pend ac a listed w → ∀ j, (j ∈ Region.ready .any ops listed ↔ j < ops.size ∧ j ∉ idx D ∧ ∀ x ∈ directs ops j, x ∈ idx D) := by
    intro E D pend ac a listed w hs j
    rw [mem_ready]
    constructor
    · rintro ⟨h0, o, ho, hall⟩
      have hj := (Array.getElem?_eq_some_iff.1 ho).1
      refine ⟨hj, fun hD => ?_, fun x hx => ?_⟩
      · have := (hs.lis j hj).2 hD
        rw [(listed_get (by rw [hs.lsz]; exact hj) true).2 this] at h0
        cases h0
      · obtain ⟨e, he, hb, rfl⟩ := (mdir ho).1 hx
        have hlt := g.lt j e.on hx hj
        have := hall e he hb
        exact (hs.lis e.on (by omega)).1 ((listed_get (by rw [hs.lsz]; omega) false).1 this)
    · rintro ⟨hj, hD, hd⟩
      have ho := Array.getElem?_eq_getElem hj
      refine ⟨?_, _, ho, fun e he hb => ?_⟩
      · cases h : listed.getD j true with
        | false => rfl
        | true => exact absurd ((hs.lis j hj).1 ((listed_get (by rw [hs.lsz]; exact hj) true).1 h)) hD
      · have hx := (mdir ho).2 ⟨e, he, hb, rfl⟩
        have hlt := g.lt j e.on hx hj
        exact (listed_get (by rw [hs.lsz]; omega) false).2 ((hs.lis e.on (by omega)).2 (hd _ hx))
  -- all have come up: the two frames are one
  have done : ∀ {k : Nat} {E D : List (Nat × Value)} {pend : Pend} {ac a : Act} {listed : Array Bool} {w : World} {t : DT}, Sim P ops a₀ E D pend ac a listed w → dtree P N ops ps k (idx E) = some t → Canon P ops (Q .normal) t pend ac w →
      (∀ j, j < ops.size → j ∈ idx D) → Q .normal a w := by
    intro k E D pend ac a listed w t hs ht hc hall
    have hE : ∀ j, j < ops.size → j ∈ idx E := fun j hj => by
      obtain ⟨v, hv⟩ := mem_idx.1 (hall j hj); exact mem_idx.2 ⟨v, hs.sub _ hv⟩
    have hnil : Canon P ops (Q .normal) .nil pend ac w := by
      cases k with
      | zero =>
        simp only [dtree] at ht
        obtain ⟨_, h⟩ := bif_some ht
        simp only [Option.some.injEq] at h
        subst h; exact hc
      | succ k =>
        exfalso
        rcases dtree_cases ht with ⟨i, m, r, hi, hr, _⟩ | ⟨_, hj⟩
        · exact (ready1_iff.1 hr).1 (hE i hi)
        · have : (List.range ops.size).filter (ready1 ops (idx E)) = [] := by
            rw [List.filter_eq_nil_iff]
            intro i hi hr
            exact (ready1_iff.1 hr).1 (hE i (List.mem_range.1 hi))
          rw [this] at hj
          simp [joinD] at hj
    have hEq : ac = a := by
      have e : ac.tmps = a.tmps := by
        apply Array.ext
        · rw [hs.rc.size, hs.ra.size]
        · intro t h1 h2
          have ht' : t < a₀.tmps.size := by rw [← hs.rc.size]; exact h1
          have v1 := hs.rc.val t ht'
          have v2 := hs.ra.val t ht'
          have : slotVal ops a₀ E t = slotVal ops a₀ D t := by
            refine slotVal_eq (fun i j hi hj => g.uniq i j t hi hj) (nodup_val hs.ne) fun i v hi => ⟨fun hm => ?_, fun hm => hs.sub _ hm⟩
            obtain ⟨u, hu⟩ := mem_idx.1 (hall i (dstOf_lt hi))
            rw [nodup_val hs.ne i v u hm (hs.sub _ hu)]; exact hu
          simp [h1] at v1
          simp [h2] at v2
          rw [v1, v2, this]
      have d : ac.defers = a.defers := by rw [hs.rc.defers, hs.ra.defers]
      cases ac; cases a; simp only at e d; subst e; subst d; rfl
    rw [← hEq]; exact hnil
  have full : ∀ {E D : List (Nat × Value)} {pend : Pend} {ac a : Act} {listed : Array Bool} {w : World}, Sim P ops a₀ E D pend ac a listed w → Region.ready .any ops listed = [] → ∀ j, j < ops.size → j ∈ idx D := by
    intro E D pend ac a listed w hs hr j
    induction j using Nat.strongRecOn with
    | _ j ih =>
      intro hj
      refine Decidable.byContradiction fun hn => ?_
      have : j ∈ Region.ready .any ops listed := (rdy hs j).2 ⟨hj, hn, fun x hx => ih x (g.lt j x hx hj) (by have := g.lt j x hx hj; omega)⟩
      rw [hr] at this; cases this
  intro fuel
  induction fuel with
  | zero =>
    intro k E D pend ac a listed w t hf hs ht hc _
    have hall : ∀ j, j < ops.size → j ∈ idx D := by
      intro j hj
      have hsub : ∀ i ∈ idx D, i ∈ List.range ops.size := fun i hi => by
        obtain ⟨v, hv⟩ := mem_idx.1 hi
        exact List.mem_range.2 (hs.bd i (mem_idx.2 ⟨v, hs.sub _ hv⟩))
      refine Decidable.byContradiction fun hn => ?_
      have h1 : (idx D).length ≤ ((List.range ops.size).erase j).length := by
        refine List.Nodup.length_le_of_subset hs.nd fun i hi => ?_
        refine (List.mem_erase_of_ne fun e => ?_).2 (hsub i hi)
        subst e; exact hn hi
      rw [List.length_erase_of_mem (List.mem_range.2 hj), List.length_range] at h1
      simp only [idx, List.length_map] at h1
      omega
    refine ⟨?_, done hs ht hc hall⟩
    cases hr : Region.ready .any ops listed with
    | nil => rfl
    | cons j l =>
      have := (rdy hs j).1 (by rw [hr]; exact List.mem_cons_self ..)
      exact absurd (hall j this.1) this.2.1
  | succ fuel ih =>
    intro k E D pend ac a listed w t hf hs ht hc hsat
    refine ⟨fun hr => done hs ht hc (full hs hr), fun j hj => ?_⟩
    obtain ⟨hjs, hjD, hd⟩ := (rdy hs j).1 hj
    have lis' : ∀ (v : Value) i, i < ops.size → ((listed.setIfInBounds j true)[i]? = some true ↔ i ∈ idx ((j, v) :: D)) := by
      intro v i hi
      by_cases hij : i = j
      · subst hij
        simp [hs.lsz, hjs, idx]
      · rw [Array.getElem?_setIfInBounds_ne (Ne.symm hij), hs.lis i hi]
        simp only [idx, List.map_cons, List.mem_cons]
        exact ⟨.inr, fun h => h.resolve_left hij⟩
    have clD' : ∀ v, Closed ops (idx ((j, v) :: D)) := by
      intro v i hi x hx
      rcases List.mem_cons.1 hi with rfl | hi
      · exact List.mem_cons_of_mem _ (hd x hx)
      · exact List.mem_cons_of_mem _ (hs.clD i hi x hx)
    have noD : ∀ i, Past ops j i → i ∉ idx D := fun i hp hi => hjD (hs.clD.past hp hi)
    have inD : ∀ i, Past ops i j → i ∈ idx D := fun i hp => past_of_ready hs.clD hd hp
    have ndD : ∀ v, (idx ((j, v) :: D)).Nodup := fun v => by simp only [idx, List.map_cons, List.nodup_cons]; exact ⟨hjD, hs.nd⟩
    by_cases hjE : j ∈ idx E
    · -- it only reads, and the walk has taken it
      obtain ⟨v, hv⟩ := mem_idx.1 hjE
      obtain ⟨aq, F, o, ho, _, hy, hF, hFE, hp1, hp2⟩ := hs.hold j v hv hjD
      have hal : Alike ops o aq a := alike_of g hF hs.ra hs.ne hFE hs.sub ho hp1 inD hp2 noD
      refine YW.wpOp ho (hy.alike (fun cs b => g.sel j o cs b ho) hal) ?_
      refine ih (by simp only [List.length_cons]; omega) (D := (j, v) :: D) ⟨hs.ra.put ho v, hs.rc, fun p hp => ?_, hs.ne, ndD v, by simp [hs.lsz], lis' v, hs.bd, hs.clE, clD' v, fun i u hiu hiD => ?_⟩ ht hc hsat
      · rcases List.mem_cons.1 hp with rfl | hp
        · exact hv
        · exact hs.sub p hp
      · exact hs.hold i u hiu fun h => hiD (List.mem_cons_of_mem _ h)
    · -- the walk stands before it
      have hdE : ∀ x ∈ directs ops j, x ∈ idx E := fun x hx => by
        obtain ⟨u, hu⟩ := mem_idx.1 (hd x hx); exact mem_idx.2 ⟨u, hs.sub _ hu⟩
      have hrj : ready1 ops (idx E) j = true := ready1_iff.2 ⟨hjE, hdE⟩
      have hqj := hsat j hjs hrj
      cases k with
      | zero =>
        simp only [dtree] at ht
        obtain ⟨hb, _⟩ := bif_some ht
        simp only [List.all_eq_true, List.mem_range] at hb
        have := hb j hjs
        simp at this
        exact absurd this hjE
      | succ k =>
        rcases dtree_cases ht with ⟨i, m, r, hi, hr, hq, _⟩ | ⟨_, hjoin⟩
        · rw [hsat i hi hr] at hq; cases hq
        · have hmem : (match resDI P N ops ps j, dtree P N ops ps k (j :: idx E) with | some m, some r => some (DT.op j m r) | _, _ => none) ∈
              (((List.range ops.size).filter (ready1 ops (idx E))).map fun i => match resDI P N ops ps i, dtree P N ops ps k (i :: idx E) with | some m, some r => some (DT.op i m r) | _, _ => none) :=
            List.mem_map.2 ⟨j, List.mem_filter.2 ⟨List.mem_range.2 hjs, hrj⟩, rfl⟩
          obtain ⟨t', ht'⟩ := joinD_some hjoin _ hmem
          rw [ht'] at hmem
          have hc' := joinD_canon hjoin hc t' hmem
          split at ht'
          · rename_i m r hm hr
            simp only [Option.some.injEq] at ht'
            subst ht'
            obtain ⟨o, ho, hv⟩ := hc'
            have hqm : isQ m.op = false := by rw [← isQat_op hm]; exact hqj
            simp only [hqm] at hv
            obtain ⟨_, _, _, _, _, hpast⟩ := resDI_spec hm
            have hal : Alike ops o ac a := alike_of g hs.rc hs.ra hs.ne (fun p hp => hp) hs.sub ho (fun i hp => past_of_ready hs.clE hdE hp) inD (fun i hp hi => hjE (hs.clE.past hp hi)) noD
            refine LoudAt.wpOp ho (LoudAt.alike (fun cs b => g.sel j o cs b ho) hal hv) fun v w' ⟨hpend, hc2⟩ => ?_
            have hs' : Sim P ops a₀ ((j, v) :: E) ((j, v) :: D) (pend.filter fun p => !m.past.contains p.1) (ac.put o.dst v) (a.put o.dst v) (listed.setIfInBounds j true) w' := by
              refine ⟨hs.ra.put ho v, hs.rc.put ho v, fun p hp => ?_, ?_, ndD v, by simp [hs.lsz], lis' v, ?_, ?_, clD' v, fun i u hiu hiD => ?_⟩
              · rcases List.mem_cons.1 hp with rfl | hp
                · exact List.mem_cons_self ..
                · exact List.mem_cons_of_mem _ (hs.sub p hp)
              · simp only [idx, List.map_cons, List.nodup_cons]; exact ⟨hjE, hs.ne⟩
              · intro i hi
                rcases List.mem_cons.1 hi with rfl | hi
                · exact hjs
                · exact hs.bd i hi
              · intro i hi x hx
                rcases List.mem_cons.1 hi with rfl | hi
                · exact List.mem_cons_of_mem _ (hdE x hx)
                · exact List.mem_cons_of_mem _ (hs.clE i hi x hx)
              · rcases List.mem_cons.1 hiu with e | hiu
                · simp only [Prod.mk.injEq] at e
                  exact absurd (by rw [e.1]; exact List.mem_cons_self ..) hiD
                · have hiD' : i ∉ idx D := fun h => hiD (List.mem_cons_of_mem _ h)
                  obtain ⟨aq, F, oq, h1, h2, h3, h4, h5, h6, h7⟩ := hs.hold i u hiu hiD'
                  have hnp : m.past.contains i = false := by
                    cases hcn : m.past.contains i with
                    | false => rfl
                    | true =>
                      have : i ∈ ps.getD j [] := hpast hqm i (by simpa using hcn)
                      exact absurd (inD i (hps j i this)) hiD'
                  have hin : (i, u, aq) ∈ pend.filter fun p => !m.past.contains p.1 := List.mem_filter.2 ⟨h2, by show (!m.past.contains i) = true; rw [hnp]; rfl⟩
                  obtain ⟨oq', hoq', hy'⟩ := hpend _ hin
                  have : oq' = oq := by simp only [h1, Option.some.injEq] at hoq'; exact hoq'.symm
                  subst this
                  exact ⟨aq, F, oq', h1, hin, hy', h4, fun p hp => List.mem_cons_of_mem _ (h5 p hp), h6, h7⟩
            obtain ⟨k', E', pend', ac', t', s1, s2, s3, s4⟩ := saturate g k hs' hr hc2
            exact ih (by simp only [List.length_cons]; omega) s1 s2 s3 s4
          · cases ht'

end
end Go.Proofs.Ytcgbcbdgjhnlaaa
