/- Layer 17 (show), plain: how a configuration's text is lexed and read; how many signs are open in it; how long the text is of what was read. -/
import Derived.Test.YtcgbcbdgjhnlaaaPrn
import Derived.Test.YtcgbcbdgjhnlaaaGrD
namespace Go.Proofs.Ytcgbcbdgjhnlaaa

/-! ## Open signs in a text -/
def opnB : Int → Int → List UInt8 → Int
  | _, m, [] => m
  | n, m, c :: r => opnB (stepO c.toNat n) (max m (stepO c.toNat n)) r
theorem opnS_ascii {l : List UInt8} (h : ∀ c ∈ l, c.toNat < 128) : ∀ (b pos : Nat) (n m : Int), l.length ≤ pos + b → opnS ⟨⟨l⟩⟩ b pos n m = opnB n m (l.drop pos)
  | 0, pos, n, m, hb => by rw [List.drop_eq_nil_of_le (by omega)]; rfl
  | b + 1, pos, n, m, hb => by
    have hs : (⟨⟨l⟩⟩ : ByteArray).size = l.length := rfl
    by_cases hp : pos < l.length
    · have hd := decode_ascii ⟨⟨l⟩⟩ pos (by rw [hs]; exact hp) (h _ (List.getElem_mem hp))
      have hg : (⟨⟨l⟩⟩ : ByteArray)[pos]'(by rw [hs]; exact hp) = l[pos] := rfl
      rw [hg] at hd
      simp only [opnS]
      rw [if_pos (show pos < (⟨⟨l⟩⟩ : ByteArray).size from hp), hd, opnS_ascii h b (pos + 1) _ _ (by omega), List.drop_eq_getElem_cons hp]; rfl
    · rw [opnS_end _ _ _ _ _ hp, List.drop_eq_nil_of_le (by omega)]; rfl
/-- So many are open at most in it, none behind it; it is of plain signs. -/
def FlatLe (d : Nat) (s : List UInt8) : Prop := (∀ c ∈ s, c.toNat < 128) ∧ ∀ (n m : Int) (u : List UInt8), n ≤ m → ∃ m', m ≤ m' ∧ (m' ≤ m ∨ m' ≤ n + d) ∧ opnB n m (s ++ u) = opnB n m' u
theorem FlatLe.mono {d e : Nat} {s : List UInt8} (h : FlatLe d s) (hd : d ≤ e) : FlatLe e s :=
  ⟨h.1, fun n m u hn => by
    obtain ⟨m', a, b, c⟩ := h.2 n m u hn
    exact ⟨m', a, by omega, c⟩⟩
theorem FlatLe.nil (d : Nat) : FlatLe d [] := ⟨fun c hc => (by cases hc), fun n m u _ => ⟨m, Int.le_refl _, .inl (Int.le_refl _), rfl⟩⟩
theorem FlatLe.app {d : Nat} {a b : List UInt8} (h1 : FlatLe d a) (h2 : FlatLe d b) : FlatLe d (a ++ b) := by
  refine ⟨fun c hc => (List.mem_append.1 hc).elim (h1.1 c) (h2.1 c), fun n m u hn => ?_⟩
  obtain ⟨m1, a1, a2, a3⟩ := h1.2 n m (b ++ u) hn
  obtain ⟨m2, b1, b2, b3⟩ := h2.2 n m1 u (by omega)
  exact ⟨m2, by omega, by omega, by rw [List.append_assoc, a3, b3]⟩
def flatB (c : UInt8) : Bool := decide (c.toNat < 128) && (!decide (c.toNat = 40) && !decide (c.toNat = 41))
theorem FlatLe.flat {d : Nat} : ∀ {s : List UInt8}, (∀ c ∈ s, flatB c = true) → FlatLe d s
  | [], _ => FlatLe.nil d
  | c :: r, h => by
    have h1 := h c (List.mem_cons_self ..)
    have h2 := FlatLe.flat (d := d) fun x hx => h x (List.mem_cons_of_mem c hx)
    unfold flatB at h1
    simp only [Bool.and_eq_true, Bool.not_eq_true', decide_eq_true_eq, decide_eq_false_iff_not] at h1
    refine ⟨fun x hx => (List.mem_cons.1 hx).elim (fun e => e ▸ h1.1) (h2.1 x), fun n m u hn => ?_⟩
    obtain ⟨m2, b1, b2, b3⟩ := h2.2 n m u hn
    refine ⟨m2, b1, b2, ?_⟩
    show opnB (stepO c.toNat n) (max m (stepO c.toNat n)) (r ++ u) = _
    rw [show stepO c.toNat n = n by unfold stepO; rw [if_neg h1.2.1, if_neg h1.2.2], show max m n = m by omega, b3]
theorem FlatLe.par {d : Nat} {s : List UInt8} (h : FlatLe d s) : FlatLe (d + 1) ([40] ++ s ++ [41]) := by
  refine ⟨fun c hc => ?_, fun n m u hn => ?_⟩
  · simp only [List.mem_append, List.mem_singleton] at hc
    rcases hc with (rfl | hc) | rfl
    · decide
    · exact h.1 c hc
    · decide
  · obtain ⟨m', b1, b2, b3⟩ := h.2 (n + 1) (max m (n + 1)) (41 :: u) (by omega)
    refine ⟨m', by omega, by omega, ?_⟩
    rw [List.append_assoc, List.append_assoc]
    show opnB (stepO (40 : UInt8).toNat n) (max m (stepO (40 : UInt8).toNat n)) (s ++ 41 :: u) = _
    rw [show stepO (40 : UInt8).toNat n = n + 1 from rfl, b3]
    show opnB (stepO (41 : UInt8).toNat (n + 1)) (max m' (stepO (41 : UInt8).toNat (n + 1))) u = _
    rw [show stepO (41 : UInt8).toNat (n + 1) = n + 1 - 1 from rfl, show n + 1 - 1 = n by omega, show max m' n = m' by omega]
theorem FlatLe.opn {d : Nat} {s : List UInt8} (h : FlatLe d s) : opnL s ≤ d := by
  unfold opnL
  rw [opnS_ascii h.1 _ _ _ _ (by omega), List.drop_zero]
  obtain ⟨m', b1, b2, b3⟩ := h.2 0 0 [] (Int.le_refl _)
  rw [List.append_nil] at b3
  rw [b3]
  show m' ≤ _
  omega
theorem word_flat {s : List UInt8} (h : wordS s = true) : ∀ c ∈ s, flatB c = true := by
  have h1 := wordS_all h
  unfold allS at h1
  simp only [Bool.and_eq_true, List.all_eq_true] at h1
  intro c hc
  have h2 := h1.1 c hc
  simp only [wordB, smallB, figB, Bool.or_eq_true, Bool.and_eq_true, decide_eq_true_eq] at h2
  unfold flatB
  simp only [Bool.and_eq_true, Bool.not_eq_true', decide_eq_true_eq, decide_eq_false_iff_not]
  omega
theorem id_flat {s : List UInt8} (h : idS s = true) : ∀ c ∈ s, flatB c = true := by
  unfold idS allS at h
  simp only [Bool.and_eq_true, List.all_eq_true] at h
  intro c hc
  have h2 := h.1 c hc
  simp only [idB, smallB, figB, Bool.or_eq_true, Bool.and_eq_true, decide_eq_true_eq] at h2
  unfold flatB
  simp only [Bool.and_eq_true, Bool.not_eq_true', decide_eq_true_eq, decide_eq_false_iff_not]
  omega
theorem signK_flat (k : Int) : ∀ c ∈ signK k, flatB c = true := by
  unfold signK
  split
  · decide
  · split <;> decide
theorem txt_flat : ∀ {t : Tr}, t.ok → FlatLe (t.dep - 1) (txtT t)
  | .this, _ => FlatLe.flat (by decide)
  | .rel w, h => FlatLe.flat (word_flat h)
  | .arrow w v, h => ((FlatLe.flat (word_flat h.1)).app (FlatLe.flat (by decide))).app (FlatLe.flat (word_flat h.2))
  | .op k a b, h => by
    have fa := txt_flat h.2.1
    have fb := txt_flat h.2.2
    have key : ∀ (x : Int) (t : Tr) (d : Nat), 1 ≤ t.dep → t.dep ≤ d → FlatLe (t.dep - 1) (txtT t) → FlatLe d (opd x t (txtT t)) := by
      intro x t d h1 h2 h3
      unfold opd
      split
      · exact h3.par.mono (by omega)
      · exact h3.mono (by omega)
    have pos : ∀ t : Tr, 1 ≤ t.dep := fun t => by cases t <;> simp [Tr.dep]
    have ha := pos a
    have hb := pos b
    have hs : FlatLe ((Tr.op k a b).dep - 1) (signK k) := FlatLe.flat (signK_flat k)
    show FlatLe ((Tr.op k a b).dep - 1) (opd (bindK k) a (txtT a) ++ signK k ++ opd (bindK k + 1) b (txtT b))
    have e : (Tr.op k a b).dep = (if b.dep < a.dep then a.dep else b.dep) + 1 := rfl
    exact ((key _ a _ ha (by rw [e]; split <;> omega) fa).app hs).app (key _ b _ hb (by rw [e]; split <;> omega) fb)
theorem typs_flat {d : Nat} : ∀ {l : List TypS} {i : Nat}, (∀ t ∈ l, typOK t = true) → FlatLe d (typsT i l)
  | [], _, _ => FlatLe.nil d
  | t :: l, i, h => by
    have h1 := h t (List.mem_cons_self ..)
    have hs : FlatLe d (sepT i) := FlatLe.flat (by unfold sepT; split <;> decide)
    have hk : FlatLe d (kindT t) := by
      unfold typOK at h1
      simp only [Bool.or_eq_true, Bool.and_eq_true, decide_eq_true_eq] at h1
      unfold kindT
      split
      · exact FlatLe.flat (by decide)
      · rename_i h0
        rcases h1 with ⟨h1, _⟩ | ⟨h1, h2⟩
        · exact absurd h1 h0
        · exact ((FlatLe.flat (word_flat h1)).app (FlatLe.flat (by decide))).app (FlatLe.flat (word_flat h2))
    exact (hs.app hk).app (typs_flat fun x hx => h x (List.mem_cons_of_mem t hx))
theorem cat_flat {α : Type} {f : α → List UInt8} {d : Nat} : ∀ {l : List α}, (∀ x ∈ l, FlatLe d (f x)) → FlatLe d (catT f l)
  | [], _ => FlatLe.nil d
  | a :: _, h => (h a (List.mem_cons_self ..)).app (cat_flat fun x hx => h x (List.mem_cons_of_mem a hx))
theorem rel_flat {T : List NodeS → Tr} (hT : TreeF T) {r : RelS} (h : GoodR r) : FlatLe 15 (pRel T r) := by
  obtain ⟨h1, _, _, h4⟩ := h.tree hT
  have ht : FlatLe 15 (txtT (T r.nodes)) := (txt_flat h1).mono (by omega)
  refine (((FlatLe.flat (by decide)).app (FlatLe.flat (word_flat h.name))).app (typs_flat h.types)).app ?_ |>.app (FlatLe.flat (by decide))
  split
  · exact FlatLe.nil _
  · exact (FlatLe.flat (by decide)).app ht
theorem conf_flat {T : List NodeS → Tr} (hT : TreeF T) {c : ConfS} (h : GoodC c) : FlatLe 15 (pConf T c) := by
  refine (cat_flat fun s hs => ?_).app (cat_flat fun s hs => ?_)
  · have hg := h.sp s hs
    exact ((((FlatLe.flat (by decide)).app (FlatLe.flat (word_flat hg.name))).app (FlatLe.flat (by decide))).app (cat_flat fun r hr => rel_flat hT (hg.rels r hr))).app (FlatLe.flat (by decide))
  · obtain ⟨h1, h2, h3⟩ := scOK_parts (h.sc s hs)
    unfold isRefS at h2
    simp only [Bool.and_eq_true] at h2
    have hr : FlatLe 15 (refT s.object) := by
      have := (FlatLe.flat (d := 15) (word_flat h2.1)).app ((FlatLe.flat (s := [58]) (by decide)).app (FlatLe.flat (id_flat h2.2)))
      exact this
    exact ((((((FlatLe.flat (by decide)).app (FlatLe.flat (word_flat h1))).app (FlatLe.flat (by decide))).app hr).app (FlatLe.flat (by decide))).app (FlatLe.flat (word_flat h3))).app (FlatLe.flat (by decide))
theorem conf_opn {T : List NodeS → Tr} (hT : TreeF T) {c : ConfS} (h : GoodC c) : opnL (pConf T c) ≤ 15 := (conf_flat hT h).opn

/-! ## Tokens -/
def kindK (t : TypS) : List KT := if t.space = [] then [(1, kUser)] else [(1, t.space), (3, [35]), (1, t.rel)]
def sepK (i : Nat) : KT := if i = 0 then (3, [58]) else (3, [124])
def typsK : Nat → List TypS → List KT
  | _, [] => []
  | i, t :: r => sepK i :: (kindK t ++ typsK (i + 1) r)
def nodsK (r : RelS) (t : Tr) : List KT := if onlyThis r.nodes then [] else (3, [61]) :: tokT t
def relKT (T : List NodeS → Tr) (r : RelS) : List KT := (1, kRelation) :: (1, r.name) :: (typsK 0 r.types ++ (nodsK r (T r.nodes) ++ [(3, [59])]))
def catK {α : Type} (f : α → List KT) (l : List α) : List KT := (l.map f).flatten
def spKT (T : List NodeS → Tr) (s : SpaceS) : List KT := (1, kNamespace) :: (1, s.name) :: (3, [123]) :: (catK (relKT T) s.rels ++ [(3, [125])])
def scKT (s : ScopeS) : List KT := [(1, kScope), (1, s.name), (3, [61]), (2, refT s.object ++ 35 :: s.rel), (3, [59])]
def confKT (T : List NodeS → Tr) (c : ConfS) : List KT := catK (spKT T) c.spaces ++ catK scKT c.scopes

theorem typOK_cases {t : TypS} (h : typOK t = true) : (t = ⟨[], []⟩) ∨ (¬ t.space = [] ∧ wordS t.space = true ∧ wordS t.rel = true) := by
  unfold typOK at h
  simp only [Bool.or_eq_true, Bool.and_eq_true, decide_eq_true_eq] at h
  obtain ⟨a, b⟩ := t
  rcases h with ⟨h1, h2⟩ | ⟨h1, h2⟩
  · dsimp only at h1 h2; subst h1 h2; exact .inl rfl
  · exact .inr ⟨(wordS_names h1).2, h1, h2⟩
theorem lx_kind {t : TypS} (h : typOK t = true) : LX (kindT t) (kindK t) := by
  rcases typOK_cases h with rfl | ⟨h0, h1, h2⟩
  · exact LX.name names_user (by decide)
  · unfold kindT kindK
    rw [if_neg h0, if_neg h0, List.append_assoc]
    exact LX.app (LX.word h1) (LY.thenX (LY.sign (c := 35) (by decide)) (LX.word h2)) (fun u _ => sep_of (by decide) u)
theorem ly_sep (i : Nat) : LY (sepT i) [sepK i] := by
  unfold sepT sepK
  split
  · exact LY.app (LY.sign (c := 58) (by decide)) LY.sp
  · exact LY.app LY.sp (LY.app (LY.sign (c := 124) (by decide)) LY.sp)
theorem sep_sep (i : Nat) (u : List UInt8) : Sep (sepT i ++ u) := by
  unfold sepT
  split
  · exact sep_of (by decide) u
  · exact sep_of (by decide) u
theorem sep_typs (i : Nat) (l : List TypS) {u : List UInt8} (hu : Sep u) : Sep (typsT i l ++ u) := by
  cases l with
  | nil => exact hu
  | cons t r => simp only [typsT, List.append_assoc]; exact sep_sep i _
theorem lx_typs : ∀ {l : List TypS} {i : Nat}, (∀ t ∈ l, typOK t = true) → LX (typsT i l) (typsK i l)
  | [], _, _ => LX.nil
  | t :: l, i, h => by
    have h1 := lx_kind (h t (List.mem_cons_self ..))
    have h2 := lx_typs (l := l) (i := i + 1) fun x hx => h x (List.mem_cons_of_mem t hx)
    have := LX.app (LY.thenX (ly_sep i) h1) h2 (fun u hu => sep_typs (i + 1) l hu)
    simpa [typsT, typsK] using this
theorem ly_line {T : List NodeS → Tr} (hT : TreeF T) {r : RelS} (h : GoodR r) : LY (pRel T r) (relKT T r) := by
  obtain ⟨h1, _, _, _⟩ := h.tree hT
  have a1 : LY ([32] ++ ([32] ++ (kRelation ++ [32]))) ([] ++ ([] ++ [(1, kRelation)])) := LY.app LY.sp (LY.app LY.sp (LY.wordSp names_rel (by decide)))
  have hend : LY [59, 10] [(3, [59])] := LY.app (LY.sign (c := 59) (by decide)) LY.nl
  have a3 : LY ((if onlyThis r.nodes then [] else [32, 61, 32] ++ txtT (T r.nodes)) ++ [59, 10]) (nodsK r (T r.nodes) ++ [(3, [59])]) := by
    unfold nodsK
    split
    · exact hend
    · have e : LY ([32, 61, 32]) [(3, [61])] := LY.app LY.sp (LY.app (LY.sign (c := 61) (by decide)) LY.sp)
      have := LX.y (LY.thenX e (lx_txt _ h1)) hend (sep_of (by decide))
      exact this
  have hsep : ∀ u, Sep (((if onlyThis r.nodes then [] else [32, 61, 32] ++ txtT (T r.nodes)) ++ [59, 10]) ++ u) := by
    intro u
    split
    · exact sep_of (by decide) u
    · simp only [List.append_assoc]; exact sep_of (by decide) _
  have a2 : LY (r.name ++ (typsT 0 r.types ++ ((if onlyThis r.nodes then [] else [32, 61, 32] ++ txtT (T r.nodes)) ++ [59, 10]))) ([(1, r.name)] ++ (typsK 0 r.types ++ (nodsK r (T r.nodes) ++ [(3, [59])]))) :=
    LX.y (LX.word h.name) (LX.y (lx_typs h.types) a3 hsep) (fun u => by rw [List.append_assoc]; exact sep_typs 0 r.types (hsep u))
  have := LY.app a1 a2
  have e1 : pRel T r = ([32] ++ ([32] ++ (kRelation ++ [32]))) ++ (r.name ++ (typsT 0 r.types ++ ((if onlyThis r.nodes then [] else [32, 61, 32] ++ txtT (T r.nodes)) ++ [59, 10]))) := by
    simp only [pRel, lineT, List.append_assoc, kRelation', kRelation, List.cons_append, List.nil_append]
  rw [e1]
  exact this
theorem ly_cat {α : Type} {f : α → List UInt8} {g : α → List KT} : ∀ {l : List α}, (∀ x ∈ l, LY (f x) (g x)) → LY (catT f l) (catK g l)
  | [], _ => LY.nil
  | a :: _, h => (h a (List.mem_cons_self ..)).app (ly_cat fun x hx => h x (List.mem_cons_of_mem a hx))
theorem ly_space {T : List NodeS → Tr} (hT : TreeF T) {s : SpaceS} (h : GoodS s) : LY (pSp T s) (spKT T s) := by
  have a1 := LY.wordSp names_ns (by decide)
  have a2 : LY (s.name ++ [32, 123, 10]) [(1, s.name), (3, [123])] := LX.y (LX.word h.name) (LY.app LY.sp (LY.app (LY.sign (c := 123) (by decide)) LY.nl)) (sep_of (by decide))
  have a3 : LY (catT (pRel T) s.rels) (catK (relKT T) s.rels) := ly_cat fun r hr => ly_line hT (h.rels r hr)
  have a4 : LY [125, 10] [(3, [125])] := LY.app (LY.sign (c := 125) (by decide)) LY.nl
  have := a1.app (a2.app (a3.app a4))
  simpa [pSp, spKT, kNs', kNamespace] using this
theorem flat_text {l : List UInt8} (h : ∀ c ∈ l, idB c = true ∨ c.toNat = 58 ∨ c.toNat = 35) : ∀ c ∈ l, textB c = true := by
  intro c hc
  have h2 := h c hc
  simp only [idB, smallB, figB, Bool.or_eq_true, Bool.and_eq_true, decide_eq_true_eq] at h2
  unfold textB
  simp only [Bool.and_eq_true, Bool.not_eq_true', decide_eq_true_eq, decide_eq_false_iff_not]
  omega
theorem word_id {c : UInt8} (h : wordB c = true) : idB c = true := by
  simp only [wordB, Bool.or_eq_true] at h
  simp only [idB, Bool.or_eq_true]
  exact .inl (.inl (.inl h))
theorem word_mem {s : List UInt8} (h : wordS s = true) : ∀ c ∈ s, idB c = true := by
  have h1 := wordS_all h
  unfold allS at h1
  simp only [Bool.and_eq_true, List.all_eq_true] at h1
  exact fun c hc => word_id (h1.1 c hc)
theorem id_mem {s : List UInt8} (h : idS s = true) : ∀ c ∈ s, idB c = true := by
  unfold idS allS at h
  simp only [Bool.and_eq_true, List.all_eq_true] at h
  exact h.1
theorem sc_text {s : ScopeS} (h : scOK s = true) : ∀ c ∈ refT s.object ++ 35 :: s.rel, textB c = true := by
  obtain ⟨_, h2, h3⟩ := scOK_parts h
  unfold isRefS at h2
  simp only [Bool.and_eq_true] at h2
  refine flat_text fun c hc => ?_
  unfold refT at hc
  simp only [List.mem_append, List.mem_cons] at hc
  rcases hc with (hc | rfl | hc) | rfl | hc
  · exact .inl (word_mem h2.1 c hc)
  · exact .inr (.inl rfl)
  · exact .inl (id_mem h2.2 c hc)
  · exact .inr (.inr rfl)
  · exact .inl (word_mem h3 c hc)
theorem ly_scope {s : ScopeS} (h : scOK s = true) : LY (pSc s) (scKT s) := by
  have a1 := LY.wordSp names_scope (by decide)
  have a2 : LY (s.name ++ [32, 61, 32]) [(1, s.name), (3, [61])] := LX.y (LX.word (scOK_parts h).1) (LY.app LY.sp (LY.app (LY.sign (c := 61) (by decide)) LY.sp)) (sep_of (by decide))
  have a3 := LY.text (sc_text h)
  have a4 : LY [59, 10] [(3, [59])] := LY.app (LY.sign (c := 59) (by decide)) LY.nl
  have := a1.app (a2.app (a3.app a4))
  simpa [pSc, scKT, kSc', kScope] using this
theorem lex_conf {T : List NodeS → Tr} (hT : TreeF T) {c : ConfS} (h : GoodC c) : lexK (pConf T c) = some (confKT T c) :=
  ((ly_cat fun s hs => ly_space hT (h.sp s hs)).app (ly_cat fun s hs => ly_scope (h.sc s hs))).whole

/-! ## Parsed -/
theorem kind_run {t : TypS} (h : typOK t = true) {toks : List Tok} (hm : toks.map kt = kindK t) (r : List Tok) : kindV (mkP (toks ++ r)) = t ∧ kindS (mkP (toks ++ r)) = mkP r := by
  rcases typOK_cases h with rfl | ⟨h0, h1, h2⟩
  · obtain ⟨x, y, rfl, hx, hy⟩ := map_head (show toks.map kt = (1, kUser) :: [] from hm)
    obtain rfl : y = [] := List.map_eq_nil_iff.1 hy
    unfold kindV kindS
    rw [List.cons_append, List.nil_append, takeK hx (by decide) (by decide), decide_eq_true rfl]
    exact ⟨rfl, rfl⟩
  · unfold kindK at hm
    rw [if_neg h0] at hm
    obtain ⟨x, y, rfl, hx, hy⟩ := map_head hm
    obtain ⟨z, y, rfl, hz, hy⟩ := map_head hy
    obtain ⟨q, y, rfl, hq, hy⟩ := map_head hy
    obtain rfl : y = [] := List.map_eq_nil_iff.1 hy
    obtain ⟨e1, e2⟩ := wdS_mk hx h1 (z :: q :: r)
    obtain ⟨e3, e4⟩ := wdS_mk hq h2 r
    unfold kindV kindS
    rw [List.cons_append, List.cons_append, List.cons_append, List.nil_append, takeK hx (by decide) (by decide), decide_eq_false (word_ne h1 (by decide)), e1, e2, must_mk hz (by decide) (by decide), e3, e4]
    exact ⟨rfl, rfl⟩
theorem types_go : ∀ {l : List TypS} {i : Nat}, 1 ≤ i → (∀ t ∈ l, typOK t = true) → ∀ (toks : List Tok), toks.map kt = typsK i l → ∀ (n : Nat) (ts : List TypS) (r : List Tok), takeB [124] r = false → (toks ++ r).length ≤ n → typesL n ts (mkP (toks ++ r)) = (ts ++ l, mkP r)
  | [], i, _, _, toks, hm, n, ts, r, hr, _ => by
    obtain rfl : toks = [] := List.map_eq_nil_iff.1 hm
    rw [List.nil_append, typesL_stop hr, List.append_nil]
  | t :: l, i, hi, h, toks, hm, n, ts, r, hr, hn => by
    obtain ⟨x, y, rfl, hx, hy⟩ := map_head (show toks.map kt = sepK i :: (kindK t ++ typsK (i + 1) l) from hm)
    unfold sepK at hx
    rw [if_neg (by omega)] at hx
    obtain ⟨a, b, rfl, ha, hb⟩ := map_split hy
    simp only [List.cons_append, List.length_cons, List.append_assoc] at hn ⊢
    obtain ⟨n', rfl⟩ : ∃ n', n = n' + 1 := ⟨n - 1, by omega⟩
    obtain ⟨k1, k2⟩ := kind_run (h t (List.mem_cons_self ..)) ha (b ++ r)
    simp only [typesL]
    rw [takeK hx (by decide) (by decide), decide_eq_true rfl, if_pos rfl, tail_mk, k1, k2, types_go (by omega) (fun x hx => h x (List.mem_cons_of_mem t hx)) b hb n' _ r hr (by simp only [List.length_append] at hn ⊢; omega), List.append_assoc, List.singleton_append]
theorem types_all {l : List TypS} (h : ∀ t ∈ l, typOK t = true) {toks : List Tok} (hm : toks.map kt = typsK 0 l) {r : List Tok} (h1 : takeB [124] r = false) (h2 : takeB [58] r = false) : typesN (mkP (toks ++ r)) = (l, mkP r) := by
  cases l with
  | nil =>
    obtain rfl : toks = [] := List.map_eq_nil_iff.1 hm
    unfold typesN
    rw [List.nil_append, show takeB [58] (mkP r).l = false from h2]; rfl
  | cons t l =>
    obtain ⟨x, y, rfl, hx, hy⟩ := map_head (show toks.map kt = sepK 0 :: (kindK t ++ typsK (0 + 1) l) from hm)
    obtain ⟨a, b, rfl, ha, hb⟩ := map_split hy
    have hx : kt x = (3, [58]) := hx
    obtain ⟨k1, k2⟩ := kind_run (h t (List.mem_cons_self ..)) ha (b ++ r)
    unfold typesN
    rw [List.cons_append, List.append_assoc, takeK hx (by decide) (by decide), decide_eq_true rfl, if_pos rfl, tail_mk, k1, k2]
    exact types_go (Nat.le_refl _) (fun x hx => h x (List.mem_cons_of_mem t hx)) b hb _ _ r h1 (Nat.le_refl _)
theorem nods_all {r : RelS} {t : Tr} (ht : t.ok) (hr : r.nodes = layN 0 t) {toks : List Tok} (hm : toks.map kt = nodsK r t) {x : Tok} (hx : kt x = (3, [59])) (u : List Tok) : nodesN (mkP (toks ++ x :: u)) = (r.nodes, mkP (x :: u)) := by
  unfold nodsK at hm
  by_cases h : onlyThis r.nodes = true
  · rw [if_pos h] at hm
    obtain rfl : toks = [] := List.map_eq_nil_iff.1 hm
    have e : r.nodes = [thisN] := by
      rw [hr] at h ⊢
      cases t with
      | this => rfl
      | rel w => cases h
      | arrow w v => cases h
      | op k a b =>
        have h1 : (layN 0 (.op k a b)).length = a.size + b.size + 1 := layN_len _ _
        have h2 := a.size_pos
        rw [onlyThis_no (by omega)] at h; cases h
    unfold nodesN
    rw [List.nil_append, must_no hx (by decide) (by decide) (by decide), e]; rfl
  · rw [if_neg h] at hm
    obtain ⟨e, y, rfl, he, hy⟩ := map_head hm
    rw [hr]
    exact nodes_eq (gr2_txt ht) hy he hx u
theorem rel_all {T : List NodeS → Tr} (hT : TreeF T) {r : RelS} (h : GoodR r) {toks : List Tok} (hm : toks.map kt = relKT T r) (u : List Tok) : ∃ x y, toks = x :: y ∧ kt x = (1, kRelation) ∧ relN (mkP (y ++ u)) = (r, mkP u) := by
  obtain ⟨h1, h2, _, _⟩ := h.tree hT
  obtain ⟨x, y, rfl, hx, hy⟩ := map_head hm
  refine ⟨x, y, rfl, hx, ?_⟩
  obtain ⟨w, y, rfl, hw, hy⟩ := map_head hy
  obtain ⟨a, y, rfl, ha, hy⟩ := map_split hy
  obtain ⟨b, y, rfl, hb, hy⟩ := map_split hy
  obtain ⟨z, y, rfl, hz, hy⟩ := map_head hy
  obtain rfl : y = [] := List.map_eq_nil_iff.1 hy
  simp only [List.cons_append, List.append_assoc, List.nil_append]
  obtain ⟨e1, e2⟩ := wdS_mk hw h.name (a ++ (b ++ z :: u))
  have hst : ∀ s : List UInt8, ¬ s = [59] → ¬ s = [61] → takeB s (b ++ z :: u) = false := by
    intro s n1 n2
    unfold nodsK at hb
    by_cases ho : onlyThis r.nodes = true
    · rw [if_pos ho] at hb
      obtain rfl : b = [] := List.map_eq_nil_iff.1 hb
      exact must_no hz (by decide) (by decide) (Ne.symm n1) u
    · rw [if_neg ho] at hb
      obtain ⟨q, b', rfl, hq, _⟩ := map_head hb
      exact must_no hq (by decide) (by decide) (Ne.symm n2) _
  unfold relN
  rw [e1, e2, types_all h.types ha (hst _ (by decide) (by decide)) (hst _ (by decide) (by decide))]
  dsimp only
  rw [nods_all h1 h2 hb hz]
  dsimp only
  rw [must_mk hz (by decide) (by decide)]
theorem rels_all {T : List NodeS → Tr} (hT : TreeF T) : ∀ {l : List RelS}, (∀ r ∈ l, GoodR r) → ∀ (toks : List Tok), toks.map kt = catK (relKT T) l → ∀ (n : Nat) (rs : List RelS) (c : Tok) (u : List Tok), kt c = (3, [125]) → (toks ++ c :: u).length ≤ n → relsL n rs (mkP (toks ++ c :: u)) = (rs ++ l, mkP (c :: u))
  | [], _, toks, hm, n, rs, c, u, hc, _ => by
    obtain rfl : toks = [] := List.map_eq_nil_iff.1 hm
    rw [List.nil_append, rels_end hc, List.append_nil]
  | r :: l, h, toks, hm, n, rs, c, u, hc, hn => by
    obtain ⟨a, b, rfl, ha, hb⟩ := map_split (show toks.map kt = relKT T r ++ catK (relKT T) l from hm)
    obtain ⟨x, y, rfl, hx, hr⟩ := rel_all hT (h r (List.mem_cons_self ..)) ha (b ++ c :: u)
    simp only [List.cons_append, List.append_assoc, List.length_cons, List.length_append] at hn ⊢
    obtain ⟨n', rfl⟩ : ∃ n', n = n' + 1 := ⟨n - 1, by omega⟩
    rw [rels_step hx hr, rels_all hT (fun x hx => h x (List.mem_cons_of_mem r hx)) b hb n' _ c u hc (by simp only [List.length_append, List.length_cons]; omega), List.append_assoc, List.singleton_append]
theorem scope_all {s : ScopeS} (h : scOK s = true) {toks : List Tok} (hm : toks.map kt = scKT s) (u : List Tok) : ∃ x y, toks = x :: y ∧ kt x = (1, kScope) ∧ scopeN (mkP (y ++ u)) = (s, mkP u) := by
  obtain ⟨h1, h2, h3⟩ := scOK_parts h
  obtain ⟨x, y, rfl, hx, hy⟩ := map_head hm
  refine ⟨x, y, rfl, hx, ?_⟩
  obtain ⟨t1, a, rfl, k1, ha⟩ := map_head hy
  obtain ⟨t2, a, rfl, k2, ha⟩ := map_head ha
  obtain ⟨t3, a, rfl, k3, ha⟩ := map_head ha
  obtain ⟨t4, a, rfl, k4, ha⟩ := map_head ha
  obtain rfl : a = [] := List.map_eq_nil_iff.1 ha
  simp only [List.cons_append, List.nil_append]
  obtain ⟨e1, e2⟩ := wdS_mk k1 h1 (t2 :: t3 :: t4 :: u)
  have hx3 : knd (mkP (t3 :: t4 :: u)) = 2 ∧ txtOf (mkP (t3 :: t4 :: u)) = refT s.object ++ 35 :: s.rel := by
    simp only [kt, Prod.mk.injEq] at k3
    exact k3
  have hc : cutA (refT s.object ++ 35 :: s.rel) = (refT s.object, s.rel) := by
    unfold cutA
    rw [cutL_app s.rel (isRef_no (c := 35) (by decide) (by decide) (by decide) h2)]
  have hp := refP_text h2
  unfold scopeN
  rw [e1, e2, must_mk k2 (by decide) (by decide)]
  unfold scopeOK
  rw [hx3.1, hx3.2, hc]
  dsimp only
  rw [hp, h3, tail_mk, must_mk k4 (by decide) (by decide), decide_eq_true rfl]
  unfold refM
  rw [hp]
  rfl
theorem scopes_all : ∀ {l : List ScopeS}, (∀ s ∈ l, scOK s = true) → ∀ (toks : List Tok), toks.map kt = catK scKT l → ∀ (n : Nat) (c : ConfS), toks.length ≤ n → confL n c (mkP toks) = (⟨c.spaces, c.scopes ++ l⟩, mkP [])
  | [], _, toks, hm, n, c, _ => by
    obtain rfl : toks = [] := List.map_eq_nil_iff.1 hm
    rw [conf_end, List.append_nil]
  | s :: l, h, toks, hm, n, c, hn => by
    obtain ⟨a, b, rfl, ha, hb⟩ := map_split (show toks.map kt = scKT s ++ catK scKT l from hm)
    obtain ⟨x, y, rfl, hx, hr⟩ := scope_all (h s (List.mem_cons_self ..)) ha b
    simp only [List.cons_append, List.length_cons, List.length_append] at hn ⊢
    obtain ⟨n', rfl⟩ : ∃ n', n = n' + 1 := ⟨n - 1, by omega⟩
    rw [conf_scope hx hr, scopes_all (fun x hx => h x (List.mem_cons_of_mem s hx)) b hb n' _ (by omega), List.append_assoc, List.singleton_append]
theorem space_all {T : List NodeS → Tr} (hT : TreeF T) {s : SpaceS} (h : GoodS s) {toks : List Tok} (hm : toks.map kt = spKT T s) (u : List Tok) : ∃ x y, toks = x :: y ∧ kt x = (1, kNamespace) ∧ spaceN (mkP (y ++ u)) = (s, mkP u) := by
  obtain ⟨x, y, rfl, hx, hy⟩ := map_head hm
  refine ⟨x, y, rfl, hx, ?_⟩
  obtain ⟨t1, a, rfl, k1, ha⟩ := map_head hy
  obtain ⟨t2, a, rfl, k2, ha⟩ := map_head ha
  obtain ⟨b, a, rfl, hb, ha⟩ := map_split ha
  obtain ⟨t4, a, rfl, k4, ha⟩ := map_head ha
  obtain rfl : a = [] := List.map_eq_nil_iff.1 ha
  simp only [List.cons_append, List.nil_append, List.append_assoc]
  exact space_eq h.name k1 k2 k4 (rels_all hT h.rels b hb _ [] t4 u k4 (Nat.le_refl _))
theorem spaces_all {T : List NodeS → Tr} (hT : TreeF T) {k : List ScopeS} (hk : ∀ s ∈ k, scOK s = true) {v : List Tok} (hv : v.map kt = catK scKT k) : ∀ {l : List SpaceS}, (∀ s ∈ l, GoodS s) → ∀ (toks : List Tok), toks.map kt = catK (spKT T) l → ∀ (n : Nat) (c : ConfS), (toks ++ v).length ≤ n → confL n c (mkP (toks ++ v)) = (⟨c.spaces ++ l, c.scopes ++ k⟩, mkP [])
  | [], _, toks, hm, n, c, hn => by
    obtain rfl : toks = [] := List.map_eq_nil_iff.1 hm
    rw [List.nil_append] at hn ⊢
    rw [scopes_all hk v hv n c hn, List.append_nil]
  | s :: l, h, toks, hm, n, c, hn => by
    obtain ⟨a, b, rfl, ha, hb⟩ := map_split (show toks.map kt = spKT T s ++ catK (spKT T) l from hm)
    obtain ⟨x, y, rfl, hx, hr⟩ := space_all hT (h s (List.mem_cons_self ..)) ha (b ++ v)
    simp only [List.cons_append, List.append_assoc, List.length_cons, List.length_append] at hn ⊢
    obtain ⟨n', rfl⟩ : ∃ n', n = n' + 1 := ⟨n - 1, by omega⟩
    rw [conf_space hx hr, spaces_all hT hk hv (fun x hx => h x (List.mem_cons_of_mem s hx)) b hb n' _ (by simp only [List.length_append]; omega), List.append_assoc, List.singleton_append]
theorem conf_all {T : List NodeS → Tr} (hT : TreeF T) {c : ConfS} (h : GoodC c) {toks : List Tok} (hm : toks.map kt = confKT T c) : confN ⟨toks, false⟩ = (c, mkP []) := by
  obtain ⟨a, b, rfl, ha, hb⟩ := map_split hm
  exact spaces_all hT h.sc hb h.sp a ha _ ⟨[], []⟩ (Nat.le_refl _)

/-! ## Open signs among the tokens -/
def BalLe (d : Nat) (ts : List KT) : Prop := ∃ p, p ≤ d ∧ Bal p ts
theorem BalLe.mono {d e : Nat} {ts : List KT} (h : BalLe d ts) (hd : d ≤ e) : BalLe e ts := let ⟨p, a, b⟩ := h; ⟨p, by omega, b⟩
theorem BalLe.app {d : Nat} {a b : List KT} (h1 : BalLe d a) (h2 : BalLe d b) : BalLe d (a ++ b) := by
  obtain ⟨p, a1, a2⟩ := h1
  obtain ⟨q, b1, b2⟩ := h2
  exact ⟨_, by split <;> omega, a2.app b2⟩
theorem BalLe.nil (d : Nat) : BalLe d [] := ⟨0, Nat.zero_le _, Bal.nil⟩
theorem BalLe.cons {d : Nat} {x : KT} (h1 : ¬ x = (3, [40])) (h2 : ¬ x = (3, [41])) {ts : List KT} (h : BalLe d ts) : BalLe d (x :: ts) := BalLe.app (a := [x]) ⟨0, Nat.zero_le _, Bal.one h1 h2⟩ h
theorem tok_bal : ∀ {t : Tr}, t.ok → BalLe (t.dep - 1) (tokT t)
  | .this, _ => BalLe.cons (by decide) (by decide) (BalLe.nil _)
  | .rel w, _ => BalLe.cons (by simp) (by simp) (BalLe.nil _)
  | .arrow w v, _ => BalLe.cons (by simp) (by simp) (BalLe.cons (by decide) (by decide) (BalLe.cons (by simp) (by simp) (BalLe.nil _)))
  | .op k a b, h => by
    have fa := tok_bal h.2.1
    have fb := tok_bal h.2.2
    have key : ∀ (x : Int) (t : Tr) (d : Nat), 1 ≤ t.dep → t.dep ≤ d → BalLe (t.dep - 1) (tokT t) → BalLe d (opdT x t (tokT t)) := by
      intro x t d h1 h2 h3
      unfold opdT
      split
      · obtain ⟨p, a, b⟩ := h3
        exact ⟨p + 1, by omega, b.par⟩
      · exact h3.mono (by omega)
    have pos : ∀ t : Tr, 1 ≤ t.dep := fun t => by cases t <;> simp [Tr.dep]
    have ha := pos a
    have hb := pos b
    have e : (Tr.op k a b).dep = (if b.dep < a.dep then a.dep else b.dep) + 1 := rfl
    have s1 : ¬ signT k = (3, [40]) ∧ ¬ signT k = (3, [41]) := by
      unfold signT
      split
      · decide
      · split <;> decide
    exact (key _ a _ ha (by rw [e]; split <;> omega) fa).app (BalLe.cons s1.1 s1.2 (key _ b _ hb (by rw [e]; split <;> omega) fb))
theorem typs_bal {d : Nat} : ∀ {l : List TypS} {i : Nat}, BalLe d (typsK i l)
  | [], _ => BalLe.nil d
  | t :: l, i => by
    have hk : BalLe d (kindK t) := by
      unfold kindK
      split
      · exact BalLe.cons (by decide) (by decide) (BalLe.nil _)
      · exact BalLe.cons (by simp) (by simp) (BalLe.cons (by decide) (by decide) (BalLe.cons (by simp) (by simp) (BalLe.nil _)))
    have hs : ¬ sepK i = (3, [40]) ∧ ¬ sepK i = (3, [41]) := by unfold sepK; split <;> decide
    exact BalLe.cons hs.1 hs.2 (hk.app typs_bal)
theorem cat_bal {α : Type} {f : α → List KT} {d : Nat} : ∀ {l : List α}, (∀ x ∈ l, BalLe d (f x)) → BalLe d (catK f l)
  | [], _ => BalLe.nil d
  | a :: _, h => (h a (List.mem_cons_self ..)).app (cat_bal fun x hx => h x (List.mem_cons_of_mem a hx))
theorem conf_bal {T : List NodeS → Tr} (hT : TreeF T) {c : ConfS} (h : GoodC c) : BalLe 15 (confKT T c) := by
  refine (cat_bal fun s hs => ?_).app (cat_bal fun s hs => ?_)
  · refine BalLe.cons (by decide) (by decide) (BalLe.cons (by simp) (by simp) (BalLe.cons (by decide) (by decide) ((cat_bal fun r hr => ?_).app (BalLe.cons (by decide) (by decide) (BalLe.nil _)))))
    obtain ⟨h1, _, _, h4⟩ := ((h.sp s hs).rels r hr).tree hT
    refine BalLe.cons (by decide) (by decide) (BalLe.cons (by simp) (by simp) (typs_bal.app (BalLe.app ?_ (BalLe.cons (by decide) (by decide) (BalLe.nil _)))))
    unfold nodsK
    split
    · exact BalLe.nil _
    · exact BalLe.cons (by decide) (by decide) ((tok_bal h1).mono (by omega))
  · exact BalLe.cons (by decide) (by decide) (BalLe.cons (by simp) (by simp) (BalLe.cons (by decide) (by decide) (BalLe.cons (by simp) (by simp) (BalLe.cons (by decide) (by decide) (BalLe.nil _)))))
theorem withinN_of {c : ConfS} (h : rightN c = true) : withinN c = true := by
  unfold rightN at h
  simp only [Bool.and_eq_true] at h
  exact h.1
/-- What is printed is read as it was. -/
theorem print_back {T : List NodeS → Tr} (hT : TreeF T) {c : ConfS} (h : rightN c = true) (hl : (pConf T c).length ≤ 16384) : ruleP (pConf T c) = (c, 0) := by
  have hg := right_good h
  obtain ⟨p, hp, hb⟩ := conf_bal hT hg
  rw [ruleP_of (lex_conf hT hg) hl fun toks hm => conf_all hT hg hm, withinN_of h]
  have hn := hb 0 [] (by decide)
  rw [List.append_nil, if_neg (by omega)] at hn
  rw [hn]; rfl
theorem print_is {T : List NodeS → Tr} (hT : TreeF T) {c : ConfS} (h : rightN c = true) : printN T c = if 16384 < (pConf T c).length then ([], 5) else (pConf T c, 0) := by
  have := conf_opn hT (right_good h)
  unfold printN
  rw [if_pos h]
  by_cases hl : 16384 < (pConf T c).length
  · rw [if_pos (.inl hl), if_pos hl]
  · rw [if_neg (by omega), if_neg hl]
theorem print_ok {T : List NodeS → Tr} (hT : TreeF T) {c : ConfS} (h : (printN T c).2 = 0) : rightN c = true ∧ (pConf T c).length ≤ 16384 ∧ (printN T c).1 = pConf T c := by
  by_cases hr : rightN c = true
  · have e := print_is hT hr
    rw [e] at h ⊢
    by_cases hl : 16384 < (pConf T c).length
    · rw [if_pos hl] at h; cases h
    · rw [if_neg hl]; exact ⟨hr, by omega, rfl⟩
  · unfold printN at h
    rw [if_neg hr] at h; cases h
end Go.Proofs.Ytcgbcbdgjhnlaaa
