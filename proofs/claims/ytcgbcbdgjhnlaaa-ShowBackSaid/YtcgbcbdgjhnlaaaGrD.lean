/- The statement RuleMany in plain words. -/
import Derived.Test.YtcgbcbdgjhnlaaaGrC
namespace Go.Proofs.Ytcgbcbdgjhnlaaa

def rep {α : Type} : Nat → List α → List α
  | 0, _ => []
  | n + 1, x => x ++ rep n x
theorem rep_snoc {α : Type} (x : List α) : ∀ n, rep n x ++ x = rep (n + 1) x
  | 0 => by simp [rep]
  | n + 1 => by
    show (x ++ rep n x) ++ x = x ++ rep (n + 1) x
    rw [List.append_assoc, rep_snoc x n]
theorem rep_len {α : Type} (x : List α) : ∀ n, (rep n x).length = n * x.length
  | 0 => by simp [rep]
  | n + 1 => by simp only [rep, List.length_append, rep_len x n, Nat.add_mul]; omega
theorem mem_rep {α : Type} {x : List α} {a : α} : ∀ {n : Nat}, a ∈ rep n x → a ∈ x
  | 0, h => by cases h
  | n + 1, h => by
    rcases List.mem_append.1 h with h | h
    · exact h
    · exact mem_rep h
theorem LY.rep {s : List UInt8} {l : List KT} (h : LY s l) : ∀ n, LY (rep n s) (rep n l)
  | 0 => LY.nil
  | n + 1 => LY.app h (LY.rep h n)
/-! ## Texts and tokens -/
def typX : List UInt8 := [124, 97, 35, 98]
def typK : List KT := [(3, [124]), (1, [97]), (3, [35]), (1, [98])]
def relX0 : List UInt8 := kRelation ++ [32, 98, 58, 32] ++ kUser
def relX (m : Nat) : List UInt8 := relX0 ++ rep m typX ++ [59]
def relK (m : Nat) : List KT := [(1, kRelation), (1, [98]), (3, [58]), (1, kUser)] ++ (rep m typK ++ [(3, [59])])
def spX0 : List UInt8 := kNamespace ++ [32, 97, 32, 123]
def spX (m k : Nat) : List UInt8 := spX0 ++ rep k (relX m) ++ [125]
def spK (m k : Nat) : List KT := [(1, kNamespace), (1, [97]), (3, [123])] ++ (rep k (relK m) ++ [(3, [125])])
def scT : List UInt8 := [97, 58, 49, 35, 98]
def scX : List UInt8 := kScope ++ [32, 99, 32, 61, 32, 34] ++ scT ++ [34, 59]
def scK : List KT := [(1, kScope), (1, [99]), (3, [61]), (2, scT), (3, [59])]
/-- The namespaces so far. -/
def spsX (m rels : Nat) : Nat → List UInt8
  | 0 => []
  | i + 1 => spX m rels ++ rep i (spX m 1)
theorem ly_typ : LX typX typK := LY.thenX (LY.sign (c := 124) (by decide)) (LX.app (LX.word wa) (LY.thenX (LY.sign (c := 35) (by decide)) (LX.word wb)) (fun u _ => sep_of (by decide) u))
theorem names_user : ∀ c ∈ kUser, nameB c = true := by decide
theorem names_scope : ∀ c ∈ kScope, nameB c = true := by decide
theorem lx_user : ∀ m, LX (kUser ++ rep m typX) ((1, kUser) :: rep m typK)
  | 0 => by
    have := LX.name names_user (by decide)
    simpa [rep] using this
  | m + 1 => by
    have := LX.app (lx_user m) ly_typ (fun u _ => sep_of (by decide) u)
    rw [List.append_assoc, rep_snoc, List.cons_append, rep_snoc] at this
    exact this
theorem ly_rel (m : Nat) : LY (relX m) (relK m) := by
  have a1 := LY.wordSp names_rel (by decide)
  have a2 : LY ([98] ++ [58, 32]) [(1, [98]), (3, [58])] := LX.y (LX.word wb) (LY.app (LY.sign (c := 58) (by decide)) LY.sp) (sep_of (by decide))
  have a3 := LX.y (lx_user m) (LY.sign (c := 59) (by decide)) (sep_of (by decide))
  have := a1.app (a2.app a3)
  simpa [relX, relX0, relK] using this
theorem ly_sp (m k : Nat) : LY (spX m k) (spK m k) := by
  have a1 := LY.wordSp names_ns (by decide)
  have a2 : LY ([97] ++ [32, 123]) [(1, [97]), (3, [123])] := LX.y (LX.word wa) (LY.app LY.sp (LY.sign (c := 123) (by decide))) (sep_of (by decide))
  have := a1.app (a2.app ((LY.rep (ly_rel m) k).app (LY.sign (c := 125) (by decide))))
  simpa [spX, spX0, spK] using this
theorem wc : wordS [99] = true := by decide
theorem ly_sc : LY scX scK := by
  have a1 := LY.wordSp names_scope (by decide)
  have a2 : LY ([99] ++ [32, 61, 32]) [(1, [99]), (3, [61])] := LX.y (LX.word wc) (LY.app LY.sp (LY.app (LY.sign (c := 61) (by decide)) LY.sp)) (sep_of (by decide))
  have a3 : LY (34 :: (scT ++ [34])) [(2, scT)] := LY.text (by decide)
  have := a1.app (a2.app (a3.app (LY.sign (c := 59) (by decide))))
  simpa [scX, scK] using this
/-! ## Parsed -/
theorem must_no {x : Tok} {k : Nat} {t s : List UInt8} (h : kt x = (k, t)) (h0 : ¬ k = 0) (h2 : ¬ k = 2) (hs : ¬ t = s) (r : List Tok) : takeB s (mkP (x :: r)).l = false := by rw [takeK h h0 h2, decide_eq_false hs]
theorem types_run : ∀ (m : Nat) (toks : List Tok), toks.map kt = rep m typK → ∀ (n : Nat) (ts : List TypS) (x : Tok) (r : List Tok), kt x = (3, [59]) → (toks ++ x :: r).length ≤ n → typesL n ts (mkP (toks ++ x :: r)) = (ts ++ List.replicate m ⟨[97], [98]⟩, mkP (x :: r))
  | 0, toks, hm, n, ts, x, r, hx, _ => by
    obtain rfl : toks = [] := List.map_eq_nil_iff.1 hm
    rw [List.nil_append, typesL_stop (must_no hx (by decide) (by decide) (by decide) r), List.replicate_zero, List.append_nil]
  | m + 1, toks, hm, n, ts, x, r, hx, hn => by
    obtain ⟨a, b, rfl, ha, hb⟩ := map_split (show toks.map kt = typK ++ rep m typK from hm)
    obtain ⟨t1, a, rfl, h1, ha⟩ := map_head ha
    obtain ⟨t2, a, rfl, h2, ha⟩ := map_head ha
    obtain ⟨t3, a, rfl, h3, ha⟩ := map_head ha
    obtain ⟨t4, a, rfl, h4, ha⟩ := map_head ha
    obtain rfl : a = [] := List.map_eq_nil_iff.1 ha
    simp only [List.cons_append, List.nil_append, List.length_cons] at hn ⊢
    obtain ⟨n', rfl⟩ : ∃ n', n = n' + 1 := ⟨n - 1, by omega⟩
    obtain ⟨e1, e2⟩ := wdS_mk h2 wa (t3 :: t4 :: (b ++ x :: r))
    obtain ⟨e3, e4⟩ := wdS_mk h4 wb (b ++ x :: r)
    have hk : kindV (mkP (t2 :: t3 :: t4 :: (b ++ x :: r))) = ⟨[97], [98]⟩ ∧ kindS (mkP (t2 :: t3 :: t4 :: (b ++ x :: r))) = mkP (b ++ x :: r) := by
      unfold kindV kindS
      rw [must_no h2 (by decide) (by decide) (by decide), e1, e2, must_mk h3 (by decide) (by decide), e3, e4]
      exact ⟨rfl, rfl⟩
    simp only [typesL]
    rw [takeK h1 (by decide) (by decide), decide_eq_true rfl, if_pos rfl, tail_mk, hk.1, hk.2, types_run m b hb n' _ x r hx (by omega), List.append_assoc, List.singleton_append, ← List.replicate_succ]
def manyR (m : Nat) : RelS := ⟨[98], ⟨[], []⟩ :: List.replicate m ⟨[97], [98]⟩, [thisN]⟩
theorem rel_many {m : Nat} {toks : List Tok} (hm : toks.map kt = [(1, [98]), (3, [58]), (1, kUser)] ++ (rep m typK ++ [(3, [59])])) (r : List Tok) : relN (mkP (toks ++ r)) = (manyR m, mkP r) := by
  have hm : toks.map kt = (1, [98]) :: (3, [58]) :: (1, kUser) :: (rep m typK ++ [(3, [59])]) := hm
  obtain ⟨t1, a, rfl, h1, ha⟩ := map_head hm
  obtain ⟨t2, a, rfl, h2, ha⟩ := map_head ha
  obtain ⟨t3, a, rfl, h3, ha⟩ := map_head ha
  obtain ⟨b, a, rfl, hb, ha⟩ := map_split ha
  obtain ⟨t4, a, rfl, h4, ha⟩ := map_head ha
  obtain rfl : a = [] := List.map_eq_nil_iff.1 ha
  simp only [List.cons_append, List.nil_append, List.append_assoc]
  obtain ⟨e1, e2⟩ := wdS_mk h1 wb (t2 :: t3 :: (b ++ t4 :: r))
  have hk : kindV (mkP (t3 :: (b ++ t4 :: r))) = ⟨[], []⟩ ∧ kindS (mkP (t3 :: (b ++ t4 :: r))) = mkP (b ++ t4 :: r) := by
    unfold kindV kindS
    rw [takeK h3 (by decide) (by decide), decide_eq_true rfl]
    exact ⟨rfl, rfl⟩
  have ht : typesN (mkP (t2 :: t3 :: (b ++ t4 :: r))) = (⟨[], []⟩ :: List.replicate m ⟨[97], [98]⟩, mkP (t4 :: r)) := by
    unfold typesN
    rw [takeK h2 (by decide) (by decide), decide_eq_true rfl, if_pos rfl, tail_mk, hk.1, hk.2]
    exact types_run m b hb _ _ t4 r h4 (Nat.le_refl _)
  have hn : nodesN (mkP (t4 :: r)) = ([thisN], mkP (t4 :: r)) := by
    unfold nodesN
    rw [must_no h4 (by decide) (by decide) (by decide)]; rfl
  unfold relN
  rw [e1, e2, ht]
  dsimp only
  rw [hn]
  dsimp only
  rw [must_mk h4 (by decide) (by decide)]; rfl
theorem rels_run (m : Nat) : ∀ (k : Nat) (toks : List Tok), toks.map kt = rep k (relK m) → ∀ (n : Nat) (rs : List RelS) (c : Tok) (r : List Tok), kt c = (3, [125]) → (toks ++ c :: r).length ≤ n → relsL n rs (mkP (toks ++ c :: r)) = (rs ++ List.replicate k (manyR m), mkP (c :: r))
  | 0, toks, hm, n, rs, c, r, hc, _ => by
    obtain rfl : toks = [] := List.map_eq_nil_iff.1 hm
    rw [List.nil_append, rels_end hc, List.replicate_zero, List.append_nil]
  | k + 1, toks, hm, n, rs, c, r, hc, hn => by
    obtain ⟨a, b, rfl, ha, hb⟩ := map_split (show toks.map kt = relK m ++ rep k (relK m) from hm)
    obtain ⟨t1, a, rfl, h1, ha⟩ := map_head (show a.map kt = (1, kRelation) :: ([(1, [98]), (3, [58]), (1, kUser)] ++ (rep m typK ++ [(3, [59])])) from ha)
    simp only [List.cons_append, List.append_assoc, List.length_cons, List.length_append] at hn ⊢
    obtain ⟨n', rfl⟩ : ∃ n', n = n' + 1 := ⟨n - 1, by omega⟩
    rw [rels_step h1 (rel_many ha (b ++ c :: r)), rels_run m k b hb n' _ c r hc (by simp only [List.length_append, List.length_cons]; omega), List.append_assoc, List.singleton_append, ← List.replicate_succ]
theorem space_many {m k : Nat} {toks : List Tok} (hm : toks.map kt = [(1, [97]), (3, [123])] ++ (rep k (relK m) ++ [(3, [125])])) (r : List Tok) : spaceN (mkP (toks ++ r)) = (⟨[97], List.replicate k (manyR m)⟩, mkP r) := by
  have hm : toks.map kt = (1, [97]) :: (3, [123]) :: (rep k (relK m) ++ [(3, [125])]) := hm
  obtain ⟨t1, a, rfl, h1, ha⟩ := map_head hm
  obtain ⟨t2, a, rfl, h2, ha⟩ := map_head ha
  obtain ⟨b, a, rfl, hb, ha⟩ := map_split ha
  obtain ⟨t4, a, rfl, h4, ha⟩ := map_head ha
  obtain rfl : a = [] := List.map_eq_nil_iff.1 ha
  simp only [List.cons_append, List.nil_append, List.append_assoc]
  exact space_eq wa h1 h2 h4 (rels_run m k b hb _ [] t4 r h4 (Nat.le_refl _))
def manyS : ScopeS := ⟨[99], ⟨[97], [49]⟩, [98]⟩
theorem scope_many {toks : List Tok} (hm : toks.map kt = [(1, [99]), (3, [61]), (2, scT), (3, [59])]) (r : List Tok) : scopeN (mkP (toks ++ r)) = (manyS, mkP r) := by
  obtain ⟨t1, a, rfl, h1, ha⟩ := map_head hm
  obtain ⟨t2, a, rfl, h2, ha⟩ := map_head ha
  obtain ⟨t3, a, rfl, h3, ha⟩ := map_head ha
  obtain ⟨t4, a, rfl, h4, ha⟩ := map_head ha
  obtain rfl : a = [] := List.map_eq_nil_iff.1 ha
  simp only [List.cons_append, List.nil_append]
  obtain ⟨e1, e2⟩ := wdS_mk h1 wc (t2 :: t3 :: t4 :: r)
  have hx : knd (mkP (t3 :: t4 :: r)) = 2 ∧ txtOf (mkP (t3 :: t4 :: r)) = scT := by
    simp only [kt, Prod.mk.injEq] at h3
    exact h3
  unfold scopeN
  rw [e1, e2, must_mk h2 (by decide) (by decide)]
  unfold scopeOK
  rw [hx.1, hx.2, tail_mk, must_mk h4 (by decide) (by decide)]
  rfl
theorem conf_scope {x : Tok} (hx : kt x = (1, kScope)) {r r' : List Tok} {s : ScopeS} (h : scopeN (mkP r) = (s, mkP r')) (m : Nat) (c : ConfS) : confL (m + 1) c (mkP (x :: r)) = confL m ⟨c.spaces, c.scopes ++ [s]⟩ (mkP r') := by
  simp only [confL]
  rw [if_neg (show ¬ ((mkP (x :: r)).f || (mkP (x :: r)).l.isEmpty) = true from Bool.false_ne_true), takeK hx (by decide) (by decide), decide_eq_false (by decide), if_neg Bool.false_ne_true, takeK hx (by decide) (by decide), decide_eq_true rfl, if_pos rfl, tail_mk, h]
theorem scopes_run : ∀ (j : Nat) (toks : List Tok), toks.map kt = rep j scK → ∀ (n : Nat) (c : ConfS), toks.length ≤ n → confL n c (mkP toks) = (⟨c.spaces, c.scopes ++ List.replicate j manyS⟩, mkP [])
  | 0, toks, hm, n, c, _ => by
    obtain rfl : toks = [] := List.map_eq_nil_iff.1 hm
    rw [conf_end, List.replicate_zero, List.append_nil]
  | j + 1, toks, hm, n, c, hn => by
    obtain ⟨a, b, rfl, ha, hb⟩ := map_split (show toks.map kt = scK ++ rep j scK from hm)
    obtain ⟨t1, a, rfl, h1, ha⟩ := map_head ha
    simp only [List.cons_append, List.length_cons, List.length_append] at hn ⊢
    obtain ⟨n', rfl⟩ : ∃ n', n = n' + 1 := ⟨n - 1, by omega⟩
    rw [conf_scope h1 (scope_many ha b), scopes_run j b hb n' _ (by omega), List.append_assoc, List.singleton_append, ← List.replicate_succ]
def manyP (m k : Nat) : SpaceS := ⟨[97], List.replicate k (manyR m)⟩
theorem space_step {m k : Nat} {toks : List Tok} (hm : toks.map kt = spK m k) (r : List Tok) {n : Nat} (hn : (toks ++ r).length ≤ n) (c : ConfS) : ∃ n', r.length ≤ n' ∧ confL n c (mkP (toks ++ r)) = confL n' ⟨c.spaces ++ [manyP m k], c.scopes⟩ (mkP r) := by
  obtain ⟨t1, a, rfl, h1, ha⟩ := map_head (show toks.map kt = (1, kNamespace) :: ([(1, [97]), (3, [123])] ++ (rep k (relK m) ++ [(3, [125])])) from hm)
  simp only [List.cons_append, List.length_cons, List.length_append] at hn
  obtain ⟨n', rfl⟩ : ∃ n', n = n' + 1 := ⟨n - 1, by omega⟩
  exact ⟨n', by omega, conf_space h1 (space_many ha r) n' c⟩
theorem spaces_run (m : Nat) : ∀ (i : Nat) (toks : List Tok), toks.map kt = rep i (spK m 1) → ∀ (j : Nat) (u : List Tok), u.map kt = rep j scK → ∀ (n : Nat) (c : ConfS), (toks ++ u).length ≤ n → confL n c (mkP (toks ++ u)) = (⟨c.spaces ++ List.replicate i (manyP m 1), c.scopes ++ List.replicate j manyS⟩, mkP [])
  | 0, toks, hm, j, u, hu, n, c, hn => by
    obtain rfl : toks = [] := List.map_eq_nil_iff.1 hm
    rw [List.nil_append] at hn ⊢
    rw [scopes_run j u hu n c hn, List.replicate_zero, List.append_nil]
  | i + 1, toks, hm, j, u, hu, n, c, hn => by
    obtain ⟨a, b, rfl, ha, hb⟩ := map_split (show toks.map kt = spK m 1 ++ rep i (spK m 1) from hm)
    rw [List.append_assoc] at hn ⊢
    obtain ⟨n', hn', e⟩ := space_step ha (b ++ u) hn c
    rw [e, spaces_run m i b hb j u hu n' _ hn', List.append_assoc, List.singleton_append, ← List.replicate_succ]
def manyC (m k i j : Nat) : ConfS := ⟨manyP m k :: List.replicate i (manyP m 1), List.replicate j manyS⟩
def manyK (m k i j : Nat) : List KT := spK m k ++ (rep i (spK m 1) ++ rep j scK)
theorem conf_many {m k i j : Nat} {toks : List Tok} (hm : toks.map kt = manyK m k i j) : confN ⟨toks, false⟩ = (manyC m k i j, mkP []) := by
  obtain ⟨a, b, rfl, ha, hb⟩ := map_split hm
  obtain ⟨x, y, rfl, hx, hy⟩ := map_split hb
  obtain ⟨n', hn', e⟩ := space_step ha (x ++ y) (Nat.le_refl _) ⟨[], []⟩
  show confL _ ⟨[], []⟩ (mkP (a ++ (x ++ y))) = _
  rw [show (PS.mk (a ++ (x ++ y)) false).l.length = (a ++ (x ++ y)).length from rfl, e, spaces_run m i x hx j y hy n' _ hn']
  rfl
theorem nest_none : ∀ {ts : List KT} {o : Nat}, o ≤ 16 → (∀ x ∈ ts, ¬ x = (3, [40]) ∧ ¬ x = (3, [41])) → nestK o ts = false
  | [], _, _, _ => rfl
  | x :: r, o, ho, h => by
    obtain ⟨h1, h2⟩ := h x (List.mem_cons_self ..)
    show (if 16 < opK o x then true else nestK (opK o x) r) = false
    rw [show opK o x = o by unfold opK; rw [if_neg h1, if_neg h2], if_neg (by omega)]
    exact nest_none ho fun y hy => h y (List.mem_cons_of_mem _ hy)
def noPar (l : List KT) : Prop := ∀ x ∈ l, ¬ x = (3, [40]) ∧ ¬ x = (3, [41])
theorem noPar.app {a b : List KT} (h1 : noPar a) (h2 : noPar b) : noPar (a ++ b) := fun x hx => (List.mem_append.1 hx).elim (h1 x) (h2 x)
theorem noPar.rep {a : List KT} (h : noPar a) (n : Nat) : noPar (rep n a) := fun x hx => h x (mem_rep hx)
theorem mem_many (m k i j : Nat) : noPar (manyK m k i j) := by
  have c1 : noPar [(1, kRelation), (1, [98]), (3, [58]), (1, kUser)] := by unfold noPar; decide
  have c2 : noPar typK := by unfold noPar; decide
  have c3 : noPar [(3, [59])] := by unfold noPar; decide
  have c4 : noPar [(1, kNamespace), (1, [97]), (3, [123])] := by unfold noPar; decide
  have c5 : noPar [(3, [125])] := by unfold noPar; decide
  have c6 : noPar scK := by unfold noPar; decide
  have hr : noPar (relK m) := c1.app ((c2.rep m).app c3)
  have hs : ∀ k', noPar (spK m k') := fun k' => c4.app ((hr.rep k').app c5)
  exact (hs k).app (((hs 1).rep i).app (c6.rep j))
theorem much_many (m : Nat) : muchN (manyR m) = decide (8 < m + 1) := by
  have hd : deepN [thisN] = 1 := by decide
  unfold muchN manyR
  simp only [List.length_cons, List.length_replicate, List.length_nil, hd]
  by_cases h : 8 < m + 1 <;> simp [h]
theorem few_many (m k : Nat) (hk : 1 ≤ k) : fewS (manyP m k) = (decide (k ≤ 16) && decide (m + 1 ≤ 8)) := by
  obtain ⟨k, rfl⟩ : ∃ k', k = k' + 1 := ⟨k - 1, by omega⟩
  have hany : (List.replicate (k + 1) (manyR m)).any muchN = decide (8 < m + 1) := by
    rw [← much_many]
    cases hmm : muchN (manyR m) with
    | true => exact List.any_eq_true.2 ⟨manyR m, List.mem_replicate.2 ⟨by omega, rfl⟩, hmm⟩
    | false =>
      rw [Bool.eq_false_iff, ne_eq, List.any_eq_true]
      rintro ⟨x, hx, hm⟩
      rw [(List.mem_replicate.1 hx).2, hmm] at hm; cases hm
  unfold fewS manyP
  simp only [List.length_replicate, hany]
  by_cases h1 : k + 1 ≤ 16 <;> by_cases h2 : m + 1 ≤ 8 <;> simp [h1, h2] <;> omega
theorem within_many (m k i j : Nat) (hk : 1 ≤ k) : withinN (manyC m k i j) = decide (i + 1 ≤ 16 ∧ k ≤ 16 ∧ m + 1 ≤ 8 ∧ j ≤ 16) := by
  have hall : (List.replicate i (manyP m 1)).all fewS = (decide (i = 0) || decide (m + 1 ≤ 8)) := by
    cases i with
    | zero => simp
    | succ i =>
      have := few_many m 1 (Nat.le_refl _)
      rw [List.all_replicate, this]; simp
  unfold withinN manyC
  simp only [List.length_cons, List.length_replicate, List.all_cons, few_many m k hk, hall]
  by_cases h1 : i + 1 ≤ 16 <;> by_cases h2 : k ≤ 16 <;> by_cases h3 : m + 1 ≤ 8 <;> by_cases h4 : j ≤ 16 <;> simp [h1, h2, h3, h4] <;> omega
theorem relX_len (m : Nat) : (relX m).length = 17 + 4 * m := by
  simp only [relX, relX0, List.length_append, rep_len, typX, kRelation, kUser, List.length_cons, List.length_nil]; omega
theorem spX_len (m k : Nat) : (spX m k).length = 14 + k * (17 + 4 * m) := by
  simp only [spX, spX0, List.length_append, rep_len, relX_len, kNamespace, List.length_cons, List.length_nil]; omega
/-- What the statement's text is read as. -/
theorem many_rule (m k i j : Nat) (hm : m ≤ 9) (hk1 : 1 ≤ k) (hk : k ≤ 18) (hi : i ≤ 17) (hj : j ≤ 18) :
    ruleP (spsX m k (i + 1) ++ rep j scX) = if i + 1 ≤ 16 ∧ k ≤ 16 ∧ m + 1 ≤ 8 ∧ j ≤ 16 then (manyC m k i j, 0) else (noConf, 25) := by
  have hx : lexK (spsX m k (i + 1) ++ rep j scX) = some (manyK m k i j) := by
    have := ((ly_sp m k).app ((LY.rep (ly_sp m 1) i).app (LY.rep ly_sc j))).whole
    rw [← List.append_assoc] at this
    exact this
  have hlen : (spsX m k (i + 1) ++ rep j scX).length ≤ 16384 := by
    simp only [spsX, List.length_append, rep_len, spX_len]
    have h1 : k * (17 + 4 * m) ≤ 18 * 53 := Nat.mul_le_mul hk (by omega)
    have h2 : i * (14 + 1 * (17 + 4 * m)) ≤ 17 * 67 := Nat.mul_le_mul hi (by omega)
    have h3 : j * scX.length ≤ 18 * 18 := Nat.mul_le_mul hj (by decide)
    omega
  rw [ruleP_of hx hlen fun toks h => conf_many h, nest_none (by decide) (mem_many m k i j), within_many m k i j hk1]
  by_cases h : i + 1 ≤ 16 ∧ k ≤ 16 ∧ m + 1 ≤ 8 ∧ j ≤ 16
  · rw [if_neg Bool.false_ne_true, decide_eq_true h, if_pos rfl, if_pos h]
  · rw [if_neg Bool.false_ne_true, decide_eq_false h, if_neg Bool.false_ne_true, if_neg h]
end Go.Proofs.Ytcgbcbdgjhnlaaa
