/- The conditions are enough: struct values, slice literals, comparisons of structs. -/
import Derived.Test.YtcgbcbdgjhnlaaaQuiet
import Derived.Laws.Tables
import Derived.Great.BuildSlice
namespace Go.Proofs.Ytcgbcbdgjhnlaaa
open Go.RowKit

theorem fold_set_list (off : Nat) : ∀ (vs : List Value) (k : Nat) (cs : Array Value), off + k + vs.length ≤ cs.size →
    ((vs.zipIdx k).foldl (fun (cs : Array Value) (p : Value × Nat) => cs.setIfInBounds (off + p.2) p.1) cs).toList = cs.toList.take (off + k) ++ vs ++ cs.toList.drop (off + k + vs.length)
  | [], k, cs, _ => by simp
  | v :: r, k, cs, h => by
    simp only [List.length_cons] at h
    simp only [List.zipIdx_cons, List.foldl_cons]
    rw [fold_set_list off r (k + 1) (cs.setIfInBounds (off + k) v) (by simp; omega)]
    have hk : off + k < cs.toList.length := by simp; omega
    rw [Array.toList_setIfInBounds]
    have e1 : off + (k + 1) = off + k + 1 := by omega
    rw [e1, List.take_succ_eq_append_getElem (by simpa using hk), List.take_set_of_le (Nat.le_refl _), List.getElem_set_self, List.drop_set_of_lt (by omega)]
    simp only [List.append_assoc, List.cons_append, List.nil_append, List.length_cons]
    congr 3
    congr 1
    omega

theorem fold_set (off : Nat) (vs cs : Array Value) (h : off + vs.size ≤ cs.size) :
    (vs.zipIdx.foldl (fun (cs : Array Value) (p : Value × Nat) => cs.setIfInBounds (off + p.2) p.1) cs) = ⟨cs.toList.take off ++ vs.toList ++ cs.toList.drop (off + vs.size)⟩ := by
  have := fold_set_list off vs.toList 0 cs (by simpa using h)
  apply Array.ext'
  rw [← Array.foldl_toList, Array.toList_zipIdx]
  simpa using this

/-- The parts as the model has them, and as they were resolved. -/
def PartsRel (place : Nat → Option (Nat × Nat)) : List (Nat × Operand) → List (Nat × Nat × Operand) → Prop
  | [], [] => True
  | (i, x) :: r, (off, size, y) :: l => place i = some (off, size) ∧ x = y ∧ PartsRel place r l
  | _, _ => False

theorem fillG_len {f : Fr} : ∀ {l : List (Nat × Nat × Operand)} {cs cs' : List PV}, fillG f cs l = some cs' → cs'.length = cs.length
  | [], cs, cs', h => by simp only [fillG, Option.some.injEq] at h; rw [h]
  | (off, size, x) :: r, cs, cs', h => by
    simp only [fillG] at h
    cases hc : (evG f x).isClo with
    | true => rw [hc] at h; cases h
    | false =>
      cases hb : Nat.beq (evG f x).cells.length size && Nat.ble (off + size) cs.length with
      | false => rw [hc, hb] at h; cases h
      | true =>
        rw [hc, hb] at h
        simp only [Bool.and_eq_true] at hb
        have h1 := Nat.eq_of_beq_eq_true hb.1
        have h2 := ble_le hb.2
        have := fillG_len (cs := splice cs off (evG f x).cells) h
        rw [this]
        simp only [splice, List.length_append, List.length_take, List.length_drop]
        omega

theorem fillG_lt {f : Fr} {n : Nat} (hlt : ∀ i, (f i).lt n) : ∀ {l : List (Nat × Nat × Operand)} {cs cs' : List PV}, fillG f cs l = some cs' → (∀ c ∈ cs, c.lt n) → ∀ c ∈ cs', c.lt n
  | [], cs, cs', h, hcs => by simp only [fillG, Option.some.injEq] at h; rw [← h]; exact hcs
  | (off, size, x) :: r, cs, cs', h, hcs => by
    simp only [fillG] at h
    cases hc : (evG f x).isClo with
    | true => rw [hc] at h; cases h
    | false =>
      cases hb : Nat.beq (evG f x).cells.length size && Nat.ble (off + size) cs.length with
      | false => rw [hc, hb] at h; cases h
      | true =>
        rw [hc, hb] at h
        refine fillG_lt hlt (cs := splice cs off (evG f x).cells) h fun c hm => ?_
        simp only [splice, List.mem_append] at hm
        rcases hm with (hm | hm) | hm
        · exact hcs c (List.mem_of_mem_take hm)
        · exact GV.cells_lt (evG_lt hlt x) c hm
        · exact hcs c (List.mem_of_mem_drop hm)

theorem fill_sound {f : Fr} {ρ : Nat → Nat} {ev : Operand → Value} {place : Nat → Option (Nat × Nat)} : ∀ {parts : List (Nat × Operand)} {l : List (Nat × Nat × Operand)} {cs cs' : List PV},
    PartsRel place parts l → (∀ p ∈ parts, ev p.2 = (evG f p.2).real ρ) → fillG f cs l = some cs' →
    Instr.fill place ⟨cs.map (PV.real ρ)⟩ (parts.map fun p => (p.1, ev p.2)) = some ⟨cs'.map (PV.real ρ)⟩
  | [], [], cs, cs', _, _, h => by simp only [fillG, Option.some.injEq] at h; rw [h]; rfl
  | [], _ :: _, _, _, hr, _, _ => hr.elim
  | _ :: _, [], _, _, hr, _, _ => by cases hr
  | (i, x) :: r, (off, size, y) :: l, cs, cs', hr, he, h => by
    obtain ⟨hp, rfl, hr⟩ := hr
    simp only [fillG] at h
    cases hc : (evG f x).isClo with
    | true => rw [hc] at h; cases h
    | false =>
      cases hb : Nat.beq (evG f x).cells.length size && Nat.ble (off + size) cs.length with
      | false => rw [hc, hb] at h; cases h
      | true =>
        rw [hc, hb] at h
        simp only [Bool.and_eq_true] at hb
        have h1 := Nat.eq_of_beq_eq_true hb.1
        have h2 := ble_le hb.2
        have e1 := he (i, x) (List.mem_cons_self ..)
        have hcr := GV.cells_real ρ hc
        have hsz : ((evG f x).real ρ).cells.size = size := by
          rw [← Array.length_toList, hcr, List.length_map, h1]
        simp only [List.map_cons, Instr.fill, hp, e1, hsz]
        have hno : (decide (size ≠ size) || decide (off + size > (⟨cs.map (PV.real ρ)⟩ : Array Value).size)) = false := by
          simp; omega
        simp only [hno]
        rw [if_neg (by simp)]
        rw [fold_set off _ _ (by rw [hsz]; simp; omega)]
        have hsp : ((⟨cs.map (PV.real ρ)⟩ : Array Value).toList.take off ++ ((evG f x).real ρ).cells.toList ++ (⟨cs.map (PV.real ρ)⟩ : Array Value).toList.drop (off + ((evG f x).real ρ).cells.size)) = (splice cs off (evG f x).cells).map (PV.real ρ) := by
          rw [hsz, hcr, splice, List.map_append, List.map_append, List.map_take, List.map_drop, h1]
        rw [hsp]
        exact fill_sound hr (fun p hp => he p (List.mem_cons_of_mem _ hp)) h

section
variable {P : Program} {B : Base} {f : Fr} {prot : List Nat} {S : GS} {K : GV → GS → Prop}

theorem resParts_rel {fs : Array Field} : ∀ {parts : List (Nat × Operand)} {l : List (Nat × Nat × Operand)}, resParts P fs parts = some l →
    ∀ {places : List (Nat × Nat)}, fs.toList.mapM (fun fd => (P.info? fd.type).map fun i => (fd.offset, i.size)) = some places → PartsRel (fun x => places.toArray[x]?) parts l
  | [], l, h, places, hp => by simp only [resParts, Option.some.injEq] at h; subst h; trivial
  | (i, x) :: r, l, h, places, hp => by
    simp only [resParts] at h
    split at h
    · rename_i fd hfd
      split at h
      · rename_i ti l' hti hl'
        simp only [Option.some.injEq] at h
        subst h
        refine ⟨?_, rfl, resParts_rel hl' hp⟩
        have key : ∀ (fl : List Field) (pl : List (Nat × Nat)), fl.mapM (fun fd => (P.info? fd.type).map fun i => (fd.offset, i.size)) = some pl → ∀ i : Nat, fl[i]? = some fd → pl[i]? = some (fd.offset, ti.size) := by
          intro fl
          induction fl with
          | nil => intro pl _ i hi; cases hi
          | cons a fl ih =>
            intro pl hpl i hi
            simp only [List.mapM_cons, Option.bind_eq_bind, Option.pure_def] at hpl
            cases ha : P.info? a.type with
            | none => simp [ha] at hpl
            | some ia =>
              cases hrest : fl.mapM (fun fd => (P.info? fd.type).map fun i => (fd.offset, i.size)) with
              | none => simp [ha, hrest] at hpl
              | some rest =>
                simp [ha, hrest] at hpl
                subst hpl
                cases i with
                | zero =>
                  simp only [List.getElem?_cons_zero, Option.some.injEq] at hi
                  subst hi
                  rw [hti] at ha
                  simp only [Option.some.injEq] at ha
                  subst ha
                  rfl
                | succ i =>
                  simp only [List.getElem?_cons_succ] at hi ⊢
                  exact ih rest hrest i hi
        have := key fs.toList places hp i (by rw [Array.getElem?_toList]; exact hfd)
        simpa using this
      · cases h
    · cases h

theorem resParts_places {fs : Array Field} {i : TypeInfo} {z : Value} {t : TypeId} (hu : P.underlying t = some (.struct fs)) (hi : P.info? t = some i) (hz : i.zero = some z)
    (hall : (fs.toList.mapM (fun fd => (P.info? fd.type).map fun i => (fd.offset, i.size))).isSome = true) {parts : List (Nat × Operand)} {l : List (Nat × Nat × Operand)} (hl : resParts P fs parts = some l)
    {ρ : Nat → Nat} {ev : Operand → Value} (he : ∀ p ∈ parts, ev p.2 = (evG f p.2).real ρ) {cs : List PV} (hf : fillG f (z.cells.toList.map .v) l = some cs) :
    P.built t (parts.map fun p => (p.1, ev p.2)) = some ⟨cs.map (PV.real ρ)⟩ := by
  obtain ⟨places, hp⟩ := Option.isSome_iff_exists.1 hall
  have h1 := fill_sound (resParts_rel hl hp) he hf
  rw [PV.real_v] at h1
  simp only [Program.built, hi, hu, hz, hp]
  exact h1

theorem q_build {dst : Option Nat} {type : TypeId} {pos : String} {after : Array Edge} {guard : Option (Nat × Bool)} {t : TypeId} {parts : Array (Nat × Operand)} {fs : Array Field} {i : TypeInfo} {z : Value} {l : List (Nat × Nat × Operand)}
    (hu : P.underlying t = some (.struct fs)) (hi : P.info? t = some i) (hz : i.zero = some z) (hall : (fs.toList.mapM (fun fd => (P.info? fd.type).map fun i => (fd.offset, i.size))).isSome = true)
    (hl : resParts P fs parts.toList = some l) (hvc : vcOp P B (.build z.cells.toList l) f prot S K) (hlt : ∀ i, (f i).lt S.σ.length) : ∃ g, K g S ∧ QOK P B ⟨dst, .build t parts, type, pos, after, guard⟩ f S g := by
  simp only [vcOp] at hvc
  split at hvc
  · rename_i cs hf
    rw [forceP_eq] at hvc
    refine ⟨_, hvc, fillG_lt hlt hf (fun c hc => by obtain ⟨y, _, rfl⟩ := List.mem_map.1 hc; trivial), fun ρ S' w ev _ _ _ hev => ?_⟩
    have he : ∀ p ∈ parts.toList, ev p.2 = (evG f p.2).real ρ := fun p hp => hev p.2 (by
      simp only [Op.operands]
      exact List.mem_toArray.2 (List.mem_map.2 ⟨p, hp, rfl⟩))
    have hb := resParts_places hu hi hz hall hl he hf
    have h2 : (parts.map fun (x : Nat × Operand) => (x.1, ev x.2)).toList = parts.toList.map fun p => (p.1, ev p.2) := Array.toList_map ..
    simp only [execOp, Sem.run_bind]
    rw [run_build w t _ _ (by rw [h2]; exact hb)]
    rfl
  · exact hvc.elim

/-! ### '==' of structs -/

theorem eqVs_len : ∀ {ks : List Nat} {xs ys : List Value} {r : Bool}, eqVs ks xs ys = some r → xs.length = ks.length ∧ ys.length = ks.length
  | [], [], [], _, _ => ⟨rfl, rfl⟩
  | _ :: ks, a :: x, b :: y, r, h => by
    simp only [eqVs] at h
    split at h
    · rename_i p q _ hq
      obtain ⟨h1, h2⟩ := eqVs_len hq
      exact ⟨by simp [h1], by simp [h2]⟩
    · cases h
  | [], _ :: _, _, _, h => by cases h
  | [], [], _ :: _, _, h => by cases h
  | _ :: _, [], _, _, h => by cases h
  | _ :: _, _ :: _, [], _, h => by cases h
theorem eqVs_append : ∀ {k1 k2 : List Nat} {xs ys : List Value} {r : Bool}, eqVs (k1 ++ k2) xs ys = some r →
    ∃ r1 r2, eqVs k1 (xs.take k1.length) (ys.take k1.length) = some r1 ∧ eqVs k2 (xs.drop k1.length) (ys.drop k1.length) = some r2 ∧ r = (r1 && r2)
  | [], k2, xs, ys, r, h => ⟨true, r, rfl, h, by simp⟩
  | k :: k1, k2, a :: x, b :: y, r, h => by
    simp only [List.cons_append, eqVs] at h
    split at h
    · rename_i p q hp hq
      obtain ⟨r1, r2, h1, h2, h3⟩ := eqVs_append hq
      simp only [Option.some.injEq] at h
      refine ⟨p && r1, r2, ?_, by simpa using h2, by rw [← h, h3, Bool.and_assoc]⟩
      simp only [List.length_cons, List.take_succ_cons, eqVs, hp, h1]
    · cases h
  | _ :: _, _, [], _, _, h => by cases h
  | _ :: _, _, _ :: _, [], _, h => by cases h
theorem eqCells_v : ∀ {ks : List Nat} {a b : List PV} {r : Bool}, eqCells ks a b = some r → ∃ xs ys, a = xs.map PV.v ∧ b = ys.map PV.v ∧ eqVs ks xs ys = some r
  | [], [], [], r, h => ⟨[], [], rfl, rfl, h⟩
  | k :: ks, .v a :: x, .v b :: y, r, h => by
    simp only [eqCells] at h
    split at h
    · rename_i p q hp hq
      obtain ⟨xs, ys, rfl, rfl, h3⟩ := eqCells_v hq
      exact ⟨a :: xs, b :: ys, rfl, rfl, by simp only [eqVs, hp, h3]; exact h⟩
    · cases h
  | [], _ :: _, _, _, h => by cases h
  | [], [], _ :: _, _, h => by cases h
  | _ :: _, [], _, _, h => by cases h
  | _ :: _, .lp _ _ :: _, _, _, h => by cases h
  | _ :: _, .v _ :: _, [], _, h => by cases h
  | _ :: _, .v _ :: _, .lp _ _ :: _, _, h => by cases h

theorem eqV_run {t : TypeId} {k : Nat} {a b : Value} {r : Bool} (h : eqV k a b = some r) (hu : (k = 0 ∧ P.underlying t = some .bool) ∨ (k = 1 ∧ ∃ q, P.underlying t = some (.int q)) ∨ (k = 2 ∧ P.underlying t = some .string)) (d : Nat) (w : World) :
    (Op.equalIn (d + 1) t a b).run P w = .ok r w := by
  rcases hu with ⟨rfl, hu⟩ | ⟨rfl, q, hu⟩ | ⟨rfl, hu⟩
  · cases a <;> cases b <;> simp only [eqV, Option.some.injEq, reduceCtorEq] at h
    subst h
    rename_i x y
    simp only [Op.equalIn, Sem.run_bind, run_underlying hu, Result.andThen_ok, Sem.run_pure]
    cases x <;> cases y <;> rfl
  · cases a <;> cases b <;> simp only [eqV, reduceCtorEq] at h
    rename_i k x k' y
    by_cases hk : k = k'
    · subst hk
      simp only [decide_true, Option.some.injEq] at h
      subst h
      simp only [Op.equalIn, Sem.run_bind, run_underlying hu, Result.andThen_ok, if_true]
      rfl
    · simp only [decide_eq_false hk, reduceCtorEq] at h
  · cases a <;> cases b <;> simp only [eqV, Option.some.injEq, reduceCtorEq] at h
    subst h
    simp only [Op.equalIn, Sem.run_bind, run_underlying hu, Result.andThen_ok, Sem.run_pure]
    rw [beq_toListBytes, bytes_list, bytes_list, beq_dec]

theorem bif_none {α : Type} {c : Bool} {x : Option α} {y : α} (h : (bif c then none else x) = some y) : c = false ∧ x = some y := by cases c <;> simp_all
theorem bif_some {α : Type} {c : Bool} {x : Option α} {y : α} (h : (bif c then x else none) = some y) : c = true ∧ x = some y := by cases c <;> simp_all

/-- What 'plainEq' says of the value of a type's variable. -/
def AsVal (P : Program) (t : TypeId) (xs : List Value) (v : Value) : Prop :=
  ((∃ fs, P.underlying t = some (.struct fs)) → v = .agg ⟨xs⟩) ∧ ((∀ fs, P.underlying t ≠ some (.struct fs)) → xs = [v])

theorem plain_lay {d : Nat} {t : TypeId} {ks : List Nat} {ss : List TypeId} (h : plainEq P (d + 1) t = some (ks, ss)) :
    ((∃ fs, P.underlying t = some (.struct fs)) ∧ ∃ i, P.info? t = some i ∧ i.size = ks.length) ∨
    ((∀ fs, P.underlying t ≠ some (.struct fs)) ∧ ks.length = 1 ∧ ∀ w, (isAgg t).run P w = .ok false w) := by
  simp only [plainEq] at h
  split at h
  · rename_i hu
    simp only [Option.some.injEq, Prod.mk.injEq] at h
    obtain ⟨rfl, -⟩ := h
    exact .inr ⟨fun fs hf => by rw [hu] at hf; simp at hf, rfl, fun w => by simp only [isAgg, Sem.run_bind, run_underlying hu, Result.andThen_ok]; rfl⟩
  · rename_i hu
    simp only [Option.some.injEq, Prod.mk.injEq] at h
    obtain ⟨rfl, -⟩ := h
    exact .inr ⟨fun fs hf => by rw [hu] at hf; simp at hf, rfl, fun w => by simp only [isAgg, Sem.run_bind, run_underlying hu, Result.andThen_ok]; rfl⟩
  · rename_i hu
    simp only [Option.some.injEq, Prod.mk.injEq] at h
    obtain ⟨rfl, -⟩ := h
    exact .inr ⟨fun fs hf => by rw [hu] at hf; simp at hf, rfl, fun w => by simp only [isAgg, Sem.run_bind, run_underlying hu, Result.andThen_ok]; rfl⟩
  · rename_i fs hu
    split at h
    · rename_i n l i _ hi
      obtain ⟨hb, h⟩ := bif_some h
      simp only [Option.some.injEq, Prod.mk.injEq] at h
      obtain ⟨rfl, -⟩ := h
      exact .inl ⟨⟨fs, hu⟩, i, hi, Nat.eq_of_beq_eq_true hb⟩
    · cases h
  · cases h

/-- The part of a struct that is one field. -/
theorem plain_part {d : Nat} {t : TypeId} {ks : List Nat} {ss : List TypeId} (h : plainEq P (d + 1) t = some (ks, ss)) (xs : List Value) (off : Nat) (hl : off + ks.length ≤ xs.length) (w : World) :
    ∃ v, (part t ⟨xs⟩ off).run P w = .ok v w ∧ AsVal P t ((xs.drop off).take ks.length) v := by
  rcases plain_lay h with ⟨⟨fs, hu⟩, i, hi, hs⟩ | ⟨hns, h1, hag⟩
  · refine ⟨.agg ⟨(xs.drop off).take ks.length⟩, ?_, fun _ => rfl, fun hf => absurd hu (hf fs)⟩
    have : (isAgg t).run P w = .ok true w := by simp only [isAgg, Sem.run_bind, run_underlying hu, Result.andThen_ok]; rfl
    simp [part, this, sizeOf_run hi, hs]
  · have hlt : off < xs.length := by omega
    refine ⟨xs[off], ?_, fun ⟨fs, hf⟩ => absurd hf (hns fs), fun _ => ?_⟩
    · simp [part, hag, hlt]
    · rw [h1, List.drop_eq_getElem_cons hlt]; rfl

theorem eq_run : ∀ (d : Nat) {t : TypeId} {ks : List Nat} {ss : List TypeId}, plainEq P d t = some (ks, ss) → (∀ s, s ∈ ss → P.stoodInHeld s = false) →
    ∀ {xs ys : List Value} {x y : Value} {r : Bool}, AsVal P t xs x → AsVal P t ys y → eqVs ks xs ys = some r → ∀ (D : Nat), d ≤ D → ∀ w : World, (Op.equalIn D t x y).run P w = .ok r w
  | 0, t, ks, ss, h, _, _, _, _, _, _, _, _, _, _, _, _ => by cases h
  | d + 1, t, ks, ss, h, hss, xs, ys, x, y, r, hx, hy, hr, D, hD, w => by
    obtain ⟨D, rfl⟩ : ∃ k, D = k + 1 := ⟨D - 1, by omega⟩
    have hsca : ∀ k, ks = [k] → (∀ fs, P.underlying t ≠ some (.struct fs)) → ((k = 0 ∧ P.underlying t = some .bool) ∨ (k = 1 ∧ ∃ q, P.underlying t = some (.int q)) ∨ (k = 2 ∧ P.underlying t = some .string)) →
        (Op.equalIn (D + 1) t x y).run P w = .ok r w := by
      intro k hk hns hu
      have h1 := hx.2 hns
      have h2 := hy.2 hns
      subst hk h1 h2
      simp only [eqVs] at hr
      split at hr
      · rename_i p q hp hq
        simp only [Option.some.injEq] at hq hr
        subst hq
        rw [Bool.and_true] at hr
        subst hr
        exact eqV_run hp hu D w
      · cases hr
    have h0 := h
    simp only [plainEq] at h
    split at h
    · rename_i hu
      simp only [Option.some.injEq, Prod.mk.injEq] at h
      exact hsca 0 h.1.symm (fun fs hf => by rw [hu] at hf; simp at hf) (.inl ⟨rfl, hu⟩)
    · rename_i q hu
      simp only [Option.some.injEq, Prod.mk.injEq] at h
      exact hsca 1 h.1.symm (fun fs hf => by rw [hu] at hf; simp at hf) (.inr (.inl ⟨rfl, q, hu⟩))
    · rename_i hu
      simp only [Option.some.injEq, Prod.mk.injEq] at h
      exact hsca 2 h.1.symm (fun fs hf => by rw [hu] at hf; simp at hf) (.inr (.inr ⟨rfl, hu⟩))
    · rename_i fs hu
      split at h
      · rename_i n l i hgo hi
        obtain ⟨hb, h⟩ := bif_some h
        simp only [Option.some.injEq, Prod.mk.injEq] at h
        obtain ⟨rfl, rfl⟩ := h
        have ex := hx.1 ⟨fs, hu⟩
        have ey := hy.1 ⟨fs, hu⟩
        subst ex ey
        have hfo : P.fieldsOf t = fs := by simp only [Program.fieldsOf, hu]
        rw [run_equalIn_struct w D t _ _ (by rw [hfo]; exact hu) (hss t (List.mem_cons_self ..)), hfo]
        obtain ⟨hlx, hly⟩ := eqVs_len hr
        have key : ∀ (fl : List Field) (off : Nat) (ks : List Nat) (l : List TypeId) (r : Bool), plainGo (plainEq P d) fl off = some (ks, l) → (∀ s, s ∈ l → P.stoodInHeld s = false) → off + ks.length ≤ xs.length → off + ks.length ≤ ys.length →
            eqVs ks ((xs.drop off).take ks.length) ((ys.drop off).take ks.length) = some r → (Op.eqFields D ⟨xs⟩ ⟨ys⟩ fl).run P w = .ok r w := by
          intro fl
          induction fl with
          | nil =>
            intro off ks l r hg _ _ _ he
            simp only [plainGo, Option.some.injEq, Prod.mk.injEq] at hg
            obtain ⟨rfl, -⟩ := hg
            simp only [List.length_nil, List.take_zero, eqVs, Option.some.injEq] at he
            subst he
            rfl
          | cons fd fl ih =>
            intro off ks l r hg hs hlx hly he
            simp only [plainGo] at hg
            obtain ⟨hn, hg⟩ := bif_none hg
            simp only [Bool.or_eq_false_iff, Bool.not_eq_false'] at hn
            have hoff := Nat.eq_of_beq_eq_true hn.2
            have hname : fd.name ≠ "_" := by simpa using hn.1
            split at hg
            · rename_i n a hpe
              split at hg
              · rename_i m b hgo'
                simp only [Option.some.injEq, Prod.mk.injEq] at hg
                obtain ⟨rfl, rfl⟩ := hg
                rw [List.length_append] at hlx hly
                obtain ⟨r1, r2, h1, h2, rfl⟩ := eqVs_append he
                obtain ⟨d', hd'⟩ : ∃ d', d = d' + 1 := by
                  cases d with
                  | zero => cases hpe
                  | succ d' => exact ⟨d', rfl⟩
                subst hd'
                obtain ⟨v1, hv1, a1⟩ := plain_part hpe xs off (by omega) w
                obtain ⟨v2, hv2, a2⟩ := plain_part hpe ys off (by omega) w
                have e1 : eqVs n ((xs.drop off).take n.length) ((ys.drop off).take n.length) = some r1 := by
                  simpa [List.take_take, List.length_append] using h1
                have hq := eq_run (d' + 1) hpe (fun s hs' => hs s (List.mem_append_left _ hs')) a1 a2 e1 D (by omega) w
                have hrest := ih (off + n.length) m b r2 hgo' (fun s hs' => hs s (List.mem_append_right _ hs')) (by omega) (by omega) (by
                  have e2 := h2
                  rw [List.length_append, List.drop_take, List.drop_take, List.drop_drop, List.drop_drop] at e2
                  simpa [Nat.add_sub_cancel_left, Nat.add_comm] using e2)
                simp only [Op.eqFields, if_pos hname, Sem.run_bind, hoff, hv1, hv2, Result.andThen_ok, hq]
                cases r1
                · simp
                · simp only [Bool.not_true, Bool.false_eq_true, if_false, Bool.true_and]; exact hrest
              · cases hg
            · cases hg
        have hlen : (xs.drop 0).take n.length = xs := by rw [List.drop_zero, ← hlx, List.take_length]
        have hlen2 : (ys.drop 0).take n.length = ys := by rw [List.drop_zero, ← hly, List.take_length]
        exact key fs.toList 0 n l r hgo (fun s hs' => hss s (List.mem_cons_of_mem _ hs')) (by omega) (by omega) (by rw [hlen, hlen2]; exact hr)
      · cases h
    · cases h

theorem q_eqA {dst : Option Nat} {type : TypeId} {pos : String} {after : Array Edge} {guard : Option (Nat × Bool)} {neq : Bool} {t yt : TypeId} {x y : Operand} {fs : Array Field} {ks : List Nat} {ss : List TypeId}
    (hu : P.underlying t = some (.struct fs)) (hp : plainEq P 8 t = some (ks, ss))
    (hvc : vcOp P B (.eqA neq t ss ks x y) f prot S K) : ∃ g, K g S ∧ QOK P B ⟨dst, .binOp (if neq then .neq else .eql) t x y yt, type, pos, after, guard⟩ f S g := by
  simp only [vcOp] at hvc
  obtain ⟨⟨hgd, hss⟩, hvc⟩ := hvc
  split at hvc
  · rename_i a b ha hb
    split at hvc
    · rename_i r hr
      refine ⟨_, hvc, trivial, fun ρ S' w ev _ _ _ hev => ?_⟩
      have e1 := hev x (by simp [Op.operands]); rw [(aggCells_real ha ρ).1] at e1
      have e2 := hev y (by simp [Op.operands]); rw [(aggCells_real hb ρ).1] at e2
      obtain ⟨xs, ys, rfl, rfl, hq⟩ := eqCells_v hr
      rw [PV.real_v] at e1 e2
      have he : (Op.equal t (.agg ⟨xs⟩) (.agg ⟨ys⟩)).run P w = .ok r w := eq_run 8 hp hss ⟨fun _ => rfl, fun h => absurd hu (h fs)⟩ ⟨fun _ => rfl, fun h => absurd hu (h fs)⟩ hq 10000 (by omega) w
      have hg : ∀ op, (eqGuard op t x y (.agg ⟨xs⟩) (.agg ⟨ys⟩)).run P w = .ok () w := fun op => run_eqGuard_agg w op t x y _ _ hgd
      cases neq
      · simp only [execOp, e1, e2, Bool.false_eq_true, if_false, Sem.run_bind, hg, Result.andThen_ok, binOp, he, Sem.run_pure]; rfl
      · simp only [execOp, e1, e2, if_true, Sem.run_bind, hg, Result.andThen_ok, binOp, he, Sem.run_pure]; rfl
    · exact hvc.elim
  · exact hvc.elim

end
end Go.Proofs.Ytcgbcbdgjhnlaaa
