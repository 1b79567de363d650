/- The conditions are enough: loops, functions. -/
import Derived.Test.YtcgbcbdgjhnlaaaWp
namespace Go.Proofs.Ytcgbcbdgjhnlaaa
open Go.RowKit

/-! ### Slots that code writes -/
theorem inR_cons {a b : Nat} {r : List (Nat × Nat)} {i : Nat} : inR ((a, b) :: r) i = true ↔ (a ≤ i ∧ i < b) ∨ inR r i = true := by
  simp only [inR, Bool.or_eq_true, Bool.and_eq_true]
  constructor
  · rintro (⟨h1, h2⟩ | h)
    · exact .inl ⟨ble_le h1, ble_le (a := i + 1) h2⟩
    · exact .inr h
  · rintro (⟨h1, h2⟩ | h)
    · exact .inl ⟨Nat.ble_eq_true_of_le h1, Nat.ble_eq_true_of_le (n := i + 1) h2⟩
    · exact .inr h
theorem merge1_iff (d i : Nat) : ∀ l : List (Nat × Nat), inR (merge1 d l) i = true ↔ inR l i = true ∨ i = d
  | [] => by
    simp only [merge1, inR_cons]
    simp only [inR, Bool.false_eq_true, or_false, false_or]
    omega
  | (a, b) :: r => by
    simp only [merge1]
    cases h1 : Nat.ble a d && Nat.blt d b with
    | true =>
      simp only [Bool.and_eq_true] at h1
      have g1 := ble_le h1.1
      have g2 := ble_le (a := d + 1) h1.2
      simp only [cond_true]
      refine ⟨.inl, fun h => h.elim id fun e => ?_⟩
      subst e
      exact inR_cons.2 (.inl ⟨g1, g2⟩)
    | false =>
      simp only [cond_false]
      cases h2 : Nat.beq d b && Nat.ble a d with
      | true =>
        simp only [Bool.and_eq_true] at h2
        have g1 := Nat.eq_of_beq_eq_true h2.1
        have g2 := ble_le h2.2
        simp only [cond_true, inR_cons]
        constructor
        · rintro (h | h)
          · by_cases e : i = d
            · exact .inr e
            · exact .inl (.inl (by omega))
          · exact .inl (.inr h)
        · rintro ((h | h) | h)
          · exact .inl (by omega)
          · exact .inr h
          · exact .inl (by omega)
      | false =>
        simp only [cond_false, inR_cons, merge1_iff d i r]
        constructor
        · rintro (h | h | h)
          · exact .inl (.inl h)
          · exact .inl (.inr h)
          · exact .inr h
        · rintro ((h | h) | h)
          · exact .inl h
          · exact .inr (.inl h)
          · exact .inr (.inr h)

/-- The slots that one operation may write. -/
def wMI (m : MI) (i : Nat) : Prop := (∃ s b, m.guard = some (s, b) ∧ i = s) ∨ m.dst = some i
def wD : DT → Nat → Prop
  | .nil, _ => False
  | .op _ m r, i => wMI m i ∨ wD r i
  | .both a b, i => wD a i ∨ wD b i
def wC : MC → Nat → Prop
  | .ops l, i => ∃ m ∈ l, wMI m i
  | .dops t, i => wD t i
  | .seq a b, i => wC a i ∨ wC b i
  | .cond _ a b, i => wC a i ∨ wC b i
  | .block _ a, i => wC a i
  | .loop _ a, i => wC a i
  | .scope a, i => wC a i
  | _, _ => False

theorem wrL_iff (i : Nat) : ∀ (l : List MI) (w : List (Nat × Nat)), inR (wrL l w) i = true ↔ inR w i = true ∨ ∃ m ∈ l, wMI m i
  | [], w => by simp [wrL]
  | m :: r, w => by
    simp only [wrL]
    rw [wrL_iff i r]
    have h1 : inR (wr1 m w) i = true ↔ inR w i = true ∨ wMI m i := by
      unfold wMI wr1
      cases hg : m.guard <;> cases hd : m.dst <;> simp only [merge1_iff, Option.some.injEq, reduceCtorEq, false_and, exists_const, or_false, false_or]
      · exact ⟨fun h => h.imp id Eq.symm, fun h => h.imp id Eq.symm⟩
      · rename_i p
        obtain ⟨s, b⟩ := p
        simp
      · rename_i p d
        obtain ⟨s, b⟩ := p
        simp only [Prod.mk.injEq]
        constructor
        · rintro ((h | h) | h)
          · exact .inl h
          · exact .inr (.inr h.symm)
          · exact .inr (.inl ⟨s, b, ⟨rfl, rfl⟩, h⟩)
        · rintro (h | ⟨_, _, ⟨rfl, _⟩, h⟩ | h)
          · exact .inl (.inl h)
          · exact .inr h
          · exact .inl (.inr h.symm)
    rw [h1]
    simp only [List.mem_cons, exists_eq_or_imp, or_assoc]
theorem wrD_iff (i : Nat) : ∀ (t : DT) (w : List (Nat × Nat)), inR (wrD t w) i = true ↔ inR w i = true ∨ wD t i
  | .nil, w => by simp [wrD, wD]
  | .op _ m r, w => by simp only [wrD, wD, wrD_iff i r, wrL_iff, List.mem_singleton, exists_eq_left, or_assoc]
  | .both a b, w => by simp only [wrD, wD, wrD_iff i b, wrD_iff i a, or_assoc]
theorem wrC_iff (i : Nat) : ∀ (c : MC) (w : List (Nat × Nat)), inR (wrC c w) i = true ↔ inR w i = true ∨ wC c i
  | .skip, w => by simp [wrC, wC]
  | .ops l, w => wrL_iff i l w
  | .dops t, w => wrD_iff i t w
  | .seq a b, w => by simp only [wrC, wC, wrC_iff i b, wrC_iff i a, or_assoc]
  | .cond _ a b, w => by simp only [wrC, wC, wrC_iff i b, wrC_iff i a, or_assoc]
  | .block _ a, w => wrC_iff i a w
  | .loop _ a, w => wrC_iff i a w
  | .exit _, w => by simp [wrC, wC]
  | .ret, w => by simp [wrC, wC]
  | .scope a, w => wrC_iff i a w

theorem inD_of {wr : List (Nat × Nat)} : ∀ {t : DT}, (∀ i, wD t i → inR wr i = true) → inD wr t
  | .nil, _ => trivial
  | .op _ _ _, h => ⟨fun x hx => h x (.inl (.inr hx)), inD_of fun i hi => h i (.inr hi)⟩
  | .both _ _, h => ⟨inD_of fun i hi => h i (.inl hi), inD_of fun i hi => h i (.inr hi)⟩

section
variable {P : Program} {B : Base} {N : Nat}

theorem inC_of {wr : List (Nat × Nat)} : ∀ {c : Code} {mc : MC}, resC P N c = some mc → (∀ i, wC mc i → inR wr i = true) → inC wr mc := by
  intro c
  induction c generalizing wr with
  | skip => intro mc h _; simp only [resC, Option.some.injEq] at h; subst h; trivial
  | region id ops draw =>
    intro mc h hw
    cases draw
    · simp only [resC] at h
      split at h
      · simp only [Option.some.injEq] at h; subst h; exact fun m hm x hx => hw x ⟨m, hm, .inr hx⟩
      · cases h
    · simp only [resC] at h
      split at h
      · simp only [Option.some.injEq] at h; subst h; exact inD_of hw
      · cases h
  | seq a b iha ihb =>
    intro mc h hw
    simp only [resC] at h
    split at h
    · rename_i x y hx hy
      simp only [Option.some.injEq] at h; subst h
      exact ⟨iha hx fun i hi => hw i (.inl hi), ihb hy fun i hi => hw i (.inr hi)⟩
    · cases h
  | cond o a b iha ihb =>
    intro mc h hw
    simp only [resC] at h
    split at h
    · rename_i x y hx hy
      simp only [Option.some.injEq] at h; subst h
      exact ⟨iha hx fun i hi => hw i (.inl hi), ihb hy fun i hi => hw i (.inr hi)⟩
    · cases h
  | block id a iha =>
    intro mc h hw
    simp only [resC] at h
    split at h
    · rename_i x hx
      simp only [Option.some.injEq] at h; subst h
      exact iha (mc := x) hx hw
    · cases h
  | loop a iha =>
    intro mc h hw
    simp only [resC] at h
    split at h
    · rename_i x hx
      simp only [Option.some.injEq] at h; subst h
      refine ⟨iha hx hw, iha hx fun i hi => (wrC_iff i x []).2 (.inr hi), fun i hi => ?_⟩
      rcases (wrC_iff i x []).1 hi with h | h
      · cases h
      · exact hw i h
    · cases h
  | exit id => intro mc h _; simp only [resC, Option.some.injEq] at h; subst h; trivial
  | ret => intro mc h _; simp only [resC, Option.some.injEq] at h; subst h; trivial
  | scope a iha =>
    intro mc h hw
    simp only [resC] at h
    split at h
    · rename_i x hx
      simp only [Option.some.injEq] at h; subst h
      exact iha (mc := x) hx hw
    · cases h
  | _ => intro mc h; simp only [resC, reduceCtorEq] at h

/-! ### Fewer variables, fewer slices -/
theorem St.take {ρ : Nat → Nat} {S : GS} {w : World} (h : St B ρ S w) {n : Nat} (hn : n ≤ S.σ.length) (hc : ∀ cs ∈ S.σ.take n, ∀ c ∈ cs, c.lt n) (hr : B.rc.length ≤ n) : St B ρ { S with σ := S.σ.take n } w := by
  have hl : (S.σ.take n).length = n := by rw [List.length_take]; omega
  have hg : ∀ (k : Nat) (cs : List PV), (S.σ.take n)[k]? = some cs → k < n ∧ S.σ[k]? = some cs := by
    intro k cs hk
    have hk' := (List.getElem?_eq_some_iff.1 hk).1
    rw [hl] at hk'
    rw [List.getElem?_take_of_lt hk'] at hk
    exact ⟨hk', hk⟩
  refine ⟨h.keep, h.vsize, h.vblock, h.mono, h.back, fun k cs hk => h.loc k cs (hg k cs hk).2, fun k hk => h.locA k (by rw [hl] at hk; omega), fun j k hj hk => h.inj j k (by rw [hl] at hj; omega) (by rw [hl] at hk; omega), fun k cs hk c hcm => ?_, fun k g hk => ?_, fun i o hi => ?_, h.sep⟩
  · simp only [hl]
    exact hc cs (List.mem_of_getElem? hk) c hcm
  · obtain ⟨h1, h2⟩ := h.rc k g hk
    have := (List.getElem?_eq_some_iff.1 hk).1
    exact ⟨by simp only [hl]; omega, h2⟩
  · obtain ⟨h1, h2⟩ := h.own i o hi
    exact ⟨h1, fun b hb => ⟨(h2 b hb).1, (h2 b hb).2.1, fun k hk => (h2 b hb).2.2 k (by rw [hl] at hk; omega)⟩⟩

theorem isNil_spec {o : Own} (h : o.isNil = true) : o.v = .slice none 0 0 ∧ o.n = 0 ∧ o.cs = [] := by
  unfold Own.isNil at h
  split at h
  · rename_i hv
    split at h
    · rename_i h1 h2; exact ⟨hv, h1, h2⟩
    · cases h
  · cases h

/-- Where each entry of the fewer stands among the more. -/
theorem sublist_map {α : Type} {l l' : List α} (h : l.Sublist l') : ∃ m : Nat → Nat, (∀ i j, i < l.length → j < l.length → m i = m j → i = j) ∧ ∀ i x, l[i]? = some x → l'[m i]? = some x := by
  induction h with
  | slnil => exact ⟨id, fun _ _ _ _ h => h, fun i x h => by simp at h⟩
  | cons a _ ih =>
    obtain ⟨m, h1, h2⟩ := ih
    exact ⟨fun i => m i + 1, fun i j hi hj h => h1 i j hi hj (Nat.succ.inj h), fun i x h => by simpa using h2 i x h⟩
  | cons_cons a _ ih =>
    obtain ⟨m, h1, h2⟩ := ih
    refine ⟨fun i => match i with | 0 => 0 | i + 1 => m i + 1, fun i j hi hj h => ?_, fun i x h => ?_⟩
    · cases i <;> cases j
      · rfl
      · simp at h
      · simp at h
      · simp only [Nat.add_right_cancel_iff] at h
        simp only [List.length_cons] at hi hj
        rw [h1 _ _ (by omega) (by omega) h]
    · cases i with
      | zero => simpa using h
      | succ i => simpa using h2 i x (by simpa using h)

/-- The entries that are no nil slices, by place. -/
theorem filter_place {α : Type} (p : α → Bool) : ∀ (l : List α), ∃ m : Nat → Nat, (∀ i j x y, l[i]? = some x → l[j]? = some y → p x = true → p y = true → m i = m j → i = j) ∧ ∀ i x, l[i]? = some x → p x = true → (l.filter p)[m i]? = some x
  | [] => ⟨id, fun _ _ _ _ _ _ _ _ h => h, fun i x h => by simp at h⟩
  | a :: l => by
    obtain ⟨m, h1, h2⟩ := filter_place p l
    cases ha : p a with
    | false =>
      refine ⟨fun i => match i with | 0 => 0 | i + 1 => m i, fun i j x y hi hj hx hy h => ?_, fun i x hi hx => ?_⟩
      · cases i with
        | zero => simp only [List.getElem?_cons_zero, Option.some.injEq] at hi; subst hi; rw [ha] at hx; cases hx
        | succ i => cases j with
          | zero => simp only [List.getElem?_cons_zero, Option.some.injEq] at hj; subst hj; rw [ha] at hy; cases hy
          | succ j => rw [h1 i j x y (by simpa using hi) (by simpa using hj) hx hy h]
      · cases i with
        | zero => simp only [List.getElem?_cons_zero, Option.some.injEq] at hi; subst hi; rw [ha] at hx; cases hx
        | succ i => rw [List.filter_cons_of_neg (by simp [ha])]; exact h2 i x (by simpa using hi) hx
    | true =>
      refine ⟨fun i => match i with | 0 => 0 | i + 1 => m i + 1, fun i j x y hi hj hx hy h => ?_, fun i x hi hx => ?_⟩
      · cases i <;> cases j
        · rfl
        · simp at h
        · simp at h
        · simp only [Nat.add_right_cancel_iff] at h
          rw [h1 _ _ x y (by simpa using hi) (by simpa using hj) hx hy h]
      · rw [List.filter_cons_of_pos ha]
        cases i with
        | zero => simpa using hi
        | succ i => simpa using h2 i x (by simpa using hi) hx

theorem St.ole {ρ : Nat → Nat} {S : GS} {w : World} (h : St B ρ S w) {O' : List Own} (hO : OLe S.O O') : St B ρ { S with O := O' } w := by
  obtain ⟨m1, a1, b1⟩ := filter_place (fun o : Own => !o.isNil) O'
  obtain ⟨m2, a2, b2⟩ := sublist_map hO
  have key : ∀ (i : Nat) (o : Own), O'[i]? = some o → o.isNil = true ∨ S.O[m2 (m1 i)]? = some o := by
    intro i o hi
    cases hn : o.isNil with
    | true => exact .inl rfl
    | false => exact .inr (b2 _ _ (b1 i o hi (by simp [hn])))
  refine ⟨h.keep, h.vsize, h.vblock, h.mono, h.back, h.loc, h.locA, h.inj, h.cells, h.rc, fun i o hi => ?_, fun i j oi oj b hi hj hbi hbj => ?_⟩
  · rcases key i o hi with hn | hs
    · obtain ⟨h1, h2, h3⟩ := isNil_spec hn
      refine ⟨?_, fun b hb => ?_⟩
      · rw [h1, h2, h3]; exact World.ownsRow_nil w 0 o.e o.sz
      · rw [h1] at hb; simp [Value.ownBlock] at hb
    · exact h.own _ o hs
  · have notnil : ∀ (o : Own), o.v.ownBlock = some b → o.isNil = false := fun o ho => by
      cases hn : o.isNil with
      | false => rfl
      | true => rw [(isNil_spec hn).1] at ho; simp [Value.ownBlock] at ho
    have ni := notnil oi hbi
    have nj := notnil oj hbj
    have f1 := b1 i oi hi (by simp [ni])
    have f2 := b1 j oj hj (by simp [nj])
    have e := h.sep _ _ oi oj b (b2 _ _ f1) (b2 _ _ f2) hbi hbj
    have e2 := a2 _ _ (List.getElem?_eq_some_iff.1 f1).1 (List.getElem?_eq_some_iff.1 f2).1 e
    exact a1 i j oi oj hi hj (by simp [ni]) (by simp [nj]) e2

theorem St.again {ρ : Nat → Nat} {S : GS} {w : World} (h : St B ρ S w) {W : PW} (hm : B.W.Le W) (hl : W = S.W) : St B ρ { S with W := W } w := by subst hl; exact h

/-! ### Loops -/
theorem wp_loop_ghost {τ : Type} {c : Code} {Q : Exit → Act → World → Prop} (I : τ → Act → World → Prop) (μ : τ → Nat)
    (round : ∀ t a w, I t a w → c.wp P (Exit.then (fun a' w' => ∃ t', I t' a' w' ∧ μ t' < μ t) Q) a w) {t : τ} {a : Act} {w : World} (h₀ : I t a w) : (Code.loop c).wp P Q a w := by
  intro b k cs
  have key : ∀ n t a w, μ t = n → I t a w →
      ∃ e a' w', Q e a' w' ∧ Arrives P (lone (b.at a (.code c :: .inLoop c :: k)) cs w) b k cs e a' w' := by
    intro n
    induction n using Nat.strongRecOn with
    | _ n ih =>
      intro t a w hn hI
      obtain ⟨e, a₁, w₁, hq, harr⟩ := round t a w hI b (.inLoop c :: k) cs
      cases e with
      | normal =>
        obtain ⟨t', hI₁, hlt⟩ := hq
        obtain ⟨e₂, a₂, w₂, hq₂, harr₂⟩ := ih (μ t') (hn ▸ hlt) t' a₁ w₁ rfl hI₁
        exact ⟨e₂, a₂, w₂, hq₂, .of_steps (Steps.trans harr (.one step_inLoop)) harr₂⟩
      | exit id => exact ⟨_, a₁, w₁, hq, .pass (x := .inLoop c) rfl (fun _ _ => .inl (by simp)) harr⟩
      | goto l => exact ⟨_, a₁, w₁, hq, .pass (x := .inLoop c) rfl (fun _ _ => .inl (by simp)) harr⟩
      | ret => exact ⟨_, a₁, w₁, hq, .pass (x := .inLoop c) rfl (fun _ _ => .inl (by simp)) harr⟩
      | panic ch => exact ⟨_, a₁, w₁, hq, .pass (x := .inLoop c) rfl (fun _ _ => .inl (by simp)) harr⟩
      | outgrown => exact ⟨_, a₁, w₁, hq, .pass (x := .inLoop c) rfl (fun _ _ => .inl (by simp)) harr⟩
  obtain ⟨e, a', w', hq, harr⟩ := key _ t a w rfl h₀
  exact ⟨e, a', w', hq, .of_steps (.one step_loop) harr⟩

theorem setL_cases (i : Nat) : ∀ (l : List (Nat × GV)) (f : Fr), (∃ g, (i, g) ∈ l ∧ setL l f i = g) ∨ ((∀ p ∈ l, p.1 ≠ i) ∧ setL l f i = f i)
  | [], _ => .inr ⟨fun p h => (by cases h), rfl⟩
  | (d, g) :: r, f => by
    by_cases h : i = d
    · subst h; exact .inl ⟨g, List.mem_cons_self .., by simp only [setL, upd_same]⟩
    · simp only [setL, upd_other _ _ h]
      rcases setL_cases i r f with ⟨u, h1, h2⟩ | ⟨h1, h2⟩
      · exact .inl ⟨u, List.mem_cons_of_mem _ h1, h2⟩
      · refine .inr ⟨fun p hp => ?_, h2⟩
        rcases List.mem_cons.1 hp with rfl | hp
        · exact fun e => h e.symm
        · exact h1 p hp

theorem code_sound (hmix : P.follows .mixedOrders = true) : ∀ {c : Code} {mc : MC}, resC P N c = some mc → ∀ {f : Fr} {S S₀ : GS} {ρ : Nat → Nat} {a : Act} {w : World} {K : Ex → Fr → GS → Prop},
    S₀.W.Le S.W → S₀.σ.length ≤ S.σ.length → B.rc.length ≤ S.σ.length → Rel N ρ f S.σ.length a → St B ρ S w → vc P B mc f S K → c.wp P (Qrel B N S₀ K) a w := by
  intro c
  induction c with
  | skip =>
    intro mc h f S S₀ ρ a w K hl hn _ hrel hst hv
    simp only [resC, Option.some.injEq] at h; subst h
    exact wp_skip ⟨f, S, ρ, hl, hn, hrel, hst, hv⟩
  | region id ops draw =>
    intro mc h f S S₀ ρ a w K hl hn _ hrel hst hv
    cases draw
    · simp only [resC] at h
      split at h
      · rename_i ms hm
        simp only [Option.some.injEq] at h; subst h
        exact wp_region_list (list_sound hm hl hn hrel hst hv)
      · cases h
    · simp only [resC] at h
      split at h
      · rename_i t ht
        simp only [Option.some.injEq] at h; subst h
        exact draw_sound hmix ht hl hn hrel hst hv
      · cases h
  | seq x y ihx ihy =>
    intro mc h f S S₀ ρ a w K hl hn hr hrel hst hv
    simp only [resC] at h
    split at h
    · rename_i mx my hx hy
      simp only [Option.some.injEq] at h; subst h
      refine wp_seq (Code.wp_mono (fun e a' w' hq => ?_) (ihx hx (PW.Le.refl S.W) (Nat.le_refl _) hr hrel hst hv))
      cases e with
      | normal =>
        obtain ⟨f', S', ρ', h1, h2, h3, h4, h5⟩ := hq
        exact Code.wp_mono (Qrel.mono (hl.trans h1) (Nat.le_trans hn h2) fun _ _ _ hk => hk) (ihy hy (PW.Le.refl S'.W) (Nat.le_refl _) (Nat.le_trans hr h2) h3 h4 h5)
      | exit id => obtain ⟨f', S', ρ', h1, h2, h3, h4, h5⟩ := hq; exact ⟨f', S', ρ', hl.trans h1, Nat.le_trans hn h2, h3, h4, h5⟩
      | ret => obtain ⟨f', S', ρ', h1, h2, h3, h4, h5⟩ := hq; exact ⟨f', S', ρ', hl.trans h1, Nat.le_trans hn h2, h3, h4, h5⟩
      | goto l => exact hq.elim
      | panic ch => exact hq.elim
      | outgrown => exact hq.elim
    · cases h
  | cond o x y ihx ihy =>
    intro mc h f S S₀ ρ a w K hl hn hr hrel hst hv
    simp only [resC] at h
    split at h
    · rename_i mx my hx hy
      simp only [Option.some.injEq] at h; subst h
      simp only [vc] at hv
      split at hv
      · rename_i t ht
        have hc : a.eval o = .bool t := by rw [hrel.eval, ht]; rfl
        refine wp_cond hc ?_
        cases t
        · exact ihy hy hl hn hr hrel hst hv
        · exact ihx hx hl hn hr hrel hst hv
      · exact hv.elim
    · cases h
  | block id x ihx =>
    intro mc h f S S₀ ρ a w K hl hn hr hrel hst hv
    simp only [resC] at h
    split at h
    · rename_i mx hx
      simp only [Option.some.injEq] at h; subst h
      refine wp_block (Code.wp_mono (fun e a' w' hq => ?_) (ihx hx hl hn hr hrel hst hv))
      cases e with
      | normal => exact hq
      | exit i =>
        obtain ⟨f', S', ρ', h1, h2, h3, h4, h5⟩ := hq
        simp only [Exit.inBlock]
        by_cases hi : i = id
        · rw [if_pos hi]
          dsimp only at h5
          have : Nat.beq i id = true := by rw [hi]; exact Nat.beq_refl id
          rw [this] at h5
          exact ⟨f', S', ρ', h1, h2, h3, h4, h5⟩
        · rw [if_neg hi]
          dsimp only at h5
          have : Nat.beq i id = false := by
            cases hb : Nat.beq i id with
            | false => rfl
            | true => exact absurd (Nat.eq_of_beq_eq_true hb) hi
          rw [this] at h5
          exact ⟨f', S', ρ', h1, h2, h3, h4, h5⟩
      | ret => exact hq
      | goto l => exact hq.elim
      | panic ch => exact hq.elim
      | outgrown => exact hq.elim
    · cases h
  | loop x ihx =>
    intro mc h f S S₀ ρ a w K hl hn hr hrel hst hv
    simp only [resC] at h
    split at h
    · rename_i mx hx
      simp only [Option.some.injEq] at h; subst h
      obtain ⟨τ, sl, σ, O, I, μ, t₀, v1, v2, v3, v4, v5, v6⟩ := hv
      have hin : inC (wrC mx []) mx := inC_of hx fun i hi => (wrC_iff i mx []).2 (.inr hi)
      refine wp_loop_ghost (τ := τ) (fun t a w => ∃ (W : PW) (g : Fr) (ρ : Nat → Nat), S.W.Le W ∧ Rel N ρ (setL (sl t) (mask (wrC mx []) g f)) S.σ.length a ∧ St B ρ ⟨σ t, O t, W⟩ w ∧ I t W) μ ?_ (t := t₀) ?_
      · rintro t a w ⟨W, g, ρ, hW, hrel, hst, hI⟩
        have hlen := (v5 t).2.1
        have hv := vc_frame (K' := fun e f' S' => (match e with
          | .normal => ∃ t', (∀ p, p ∈ sl t' → f' p.1 = p.2) ∧ S'.σ.take S.σ.length = σ t' ∧ OLe S'.O (O t') ∧ I t' S'.W ∧ μ t' < μ t
          | .exit id => K (.exit id) f' S'
          | .ret => K .ret f' S') ∧ ∀ i, inR (wrC mx []) i = false → f' i = setL (sl t) (mask (wrC mx []) g f) i) hin (fun e f' S' hk he => ⟨hk, he⟩) (v6 t W hW hI g)
        refine Code.wp_mono (fun e a' w' hq => ?_) (ihx hx (S₀ := ⟨σ t, O t, W⟩) (PW.Le.refl W) (Nat.le_refl _) (by rw [hlen]; exact hr) (by rw [hlen]; exact hrel) hst hv)
        cases e with
        | normal =>
          obtain ⟨f', S', ρ', h1, h2, h3, h4, ⟨t', k1, k2, k3, k4, k5⟩, h6⟩ := hq
          have hn' : S.σ.length ≤ S'.σ.length := by rw [← hlen]; exact h2
          refine ⟨t', ⟨S'.W, fun i => .v ((f' i).real ρ'), ρ', hW.trans h1, ⟨h3.defers, h3.size, fun i => ?_, fun i => ?_⟩, ?_, k4⟩, k5⟩
          · rw [h3.val i]
            rcases setL_cases i (sl t') (mask (wrC mx []) (fun i => .v ((f' i).real ρ')) f) with ⟨u, hm, hu⟩ | ⟨hm, hu⟩
            · rw [hu, k1 _ hm]
            · rw [hu]
              cases hw : inR (wrC mx []) i with
              | true => simp only [mask, hw, cond_true]; rfl
              | false =>
                simp only [mask, hw, cond_false]
                rw [h6 i hw, setL_out hw fun p hp => ((v5 t).1 p hp).2]
                simp only [mask, hw, cond_false]
          · rcases setL_cases i (sl t') (mask (wrC mx []) (fun i => .v ((f' i).real ρ')) f) with ⟨u, hm, hu⟩ | ⟨hm, hu⟩
            · rw [hu]; exact ((v5 t').1 _ hm).1
            · rw [hu]
              cases hw : inR (wrC mx []) i with
              | true => simp only [mask, hw, cond_true]; trivial
              | false =>
                have := hrel.lt i
                rw [setL_out hw fun p hp => ((v5 t).1 p hp).2] at this
                simp only [mask, hw, cond_false] at this ⊢
                exact this
          · have h5 := h4.take hn' (by rw [k2]; exact (v5 t').2.2) hr
            have h7 := h5.ole k3
            rw [k2] at h7
            exact h7
        | exit id =>
          obtain ⟨f', S', ρ', h1, h2, h3, h4, h5, _⟩ := hq
          exact ⟨f', S', ρ', hl.trans (hW.trans h1), Nat.le_trans hn (by rw [← hlen]; exact h2), h3, h4, h5⟩
        | ret =>
          obtain ⟨f', S', ρ', h1, h2, h3, h4, h5, _⟩ := hq
          exact ⟨f', S', ρ', hl.trans (hW.trans h1), Nat.le_trans hn (by rw [← hlen]; exact h2), h3, h4, h5⟩
        | goto l => exact hq.elim
        | panic ch => exact hq.elim
        | outgrown => exact hq.elim
      · refine ⟨S.W, f, ρ, PW.Le.refl _, ?_, ?_, v4⟩
        · have : setL (sl t₀) (mask (wrC mx []) f f) = f := by
            funext i
            rcases setL_cases i (sl t₀) (mask (wrC mx []) f f) with ⟨u, hm, hu⟩ | ⟨hm, hu⟩
            · rw [hu]; exact (v1 _ hm).symm
            · rw [hu]; simp only [mask]; cases inR (wrC mx []) i <;> rfl
          rw [this]; exact hrel
        · have := hst.ole v3
          rw [← v2]; exact this
    · cases h
  | exit id =>
    intro mc h f S S₀ ρ a w K hl hn _ hrel hst hv
    simp only [resC, Option.some.injEq] at h; subst h
    exact wp_exit ⟨f, S, ρ, hl, hn, hrel, hst, hv⟩
  | ret =>
    intro mc h f S S₀ ρ a w K hl hn _ hrel hst hv
    simp only [resC, Option.some.injEq] at h; subst h
    exact wp_ret ⟨f, S, ρ, hl, hn, hrel, hst, hv⟩
  | scope x ihx =>
    intro mc h f S S₀ ρ a w K hl hn hr hrel hst hv
    simp only [resC] at h
    split at h
    · rename_i mx hx
      simp only [Option.some.injEq] at h; subst h
      refine wp_scope_straight (Code.wp_mono (fun e a' w' hq => ?_) (ihx hx hl hn hr hrel hst hv))
      cases e <;> first | exact hq | exact hq.elim
    · cases h
  | _ => intro mc h; simp only [resC, reduceCtorEq] at h

end
end Go.Proofs.Ytcgbcbdgjhnlaaa
