/- What a configuration of one relation is read as; the statement RuleDeep in plain words. -/
import Derived.Test.YtcgbcbdgjhnlaaaGrB
namespace Go.Proofs.Ytcgbcbdgjhnlaaa

/-! ## Open signs -/
def opK (o : Nat) (x : KT) : Nat := if x = (3, [40]) then o + 1 else if x = (3, [41]) then o - 1 else o
def nestK : Nat → List KT → Bool
  | _, [] => false
  | o, x :: r => if 16 < opK o x then true else nestK (opK o x) r
theorem nest_kt : ∀ (l : List Tok) (o : Nat), nestL o l = nestK o (l.map kt)
  | [], _ => rfl
  | x :: l, o => by
    have e : openN o x = opK o (kt x) := by
      unfold openN opK kt
      simp only [Prod.mk.injEq]
    simp only [nestL, List.map_cons, nestK]
    rw [e, nest_kt l]
/-- So many are open at most, none in the end. -/
def Bal (p : Nat) (ts : List KT) : Prop := ∀ (o : Nat) (u : List KT), o ≤ 16 → nestK o (ts ++ u) = if 16 < o + p then true else nestK o u
theorem Bal.nil : Bal 0 [] := fun o u h => by rw [if_neg (by omega)]; rfl
theorem Bal.one {x : KT} (h1 : ¬ x = (3, [40])) (h2 : ¬ x = (3, [41])) : Bal 0 [x] := fun o u h => by
  rw [if_neg (by omega)]
  show (if 16 < opK o x then true else nestK (opK o x) u) = _
  rw [show opK o x = o by unfold opK; rw [if_neg h1, if_neg h2], if_neg (by omega)]
theorem Bal.app {p q : Nat} {a b : List KT} (h1 : Bal p a) (h2 : Bal q b) : Bal (if p < q then q else p) (a ++ b) := fun o u h => by
  rw [List.append_assoc, h1 o _ h]
  by_cases hp : 16 < o + p
  · rw [if_pos hp, if_pos (by split <;> omega)]
  · rw [if_neg hp, h2 o u h]
    by_cases hq : 16 < o + q
    · rw [if_pos hq, if_pos (by split <;> omega)]
    · rw [if_neg hq, if_neg (by split <;> omega)]
theorem Bal.par {p : Nat} {a : List KT} (h1 : Bal p a) : Bal (p + 1) ((3, [40]) :: (a ++ [(3, [41])])) := fun o u h => by
  show (if 16 < opK o (3, [40]) then true else nestK (opK o (3, [40])) (a ++ [(3, [41])] ++ u)) = _
  rw [show opK o (3, [40]) = o + 1 by rfl]
  by_cases ho : 16 < o + 1
  · rw [if_pos ho, if_pos (by omega)]
  · rw [if_neg ho, List.append_assoc, h1 (o + 1) _ (by omega)]
    by_cases hp : 16 < o + 1 + p
    · rw [if_pos hp, if_pos (by omega)]
    · rw [if_neg hp, if_neg (by omega)]
      show (if 16 < opK (o + 1) (3, [41]) then true else nestK (opK (o + 1) (3, [41])) u) = _
      rw [show opK (o + 1) (3, [41]) = o by rfl, if_neg (by omega)]
theorem Bal.cast {p q : Nat} {a : List KT} (h : Bal p a) (e : p = q) : Bal q a := e ▸ h
theorem gr_bal {lev : Nat} {ts : List KT} {t : Tr} (h : Gr lev ts t) : ∃ p, Bal p ts := by
  induction h with
  | this => exact ⟨0, Bal.one (by decide) (by decide)⟩
  | rel w hw => exact ⟨0, Bal.one (by simp) (by simp)⟩
  | arrow w v hw hv => exact ⟨_, (Bal.one (x := (1, w)) (by simp) (by simp)).app ((Bal.one (x := (3, [45, 62])) (by decide) (by decide)).app (Bal.one (x := (1, v)) (by simp) (by simp)))⟩
  | par ts t _ ih => obtain ⟨p, h⟩ := ih; exact ⟨_, h.par⟩
  | fac ts t _ ih => exact ih
  | and ts us a b _ _ iha ihb => obtain ⟨p, h⟩ := iha; obtain ⟨q, g⟩ := ihb; exact ⟨_, h.app ((Bal.one (x := (3, [38])) (by decide) (by decide)).app g)⟩
  | term ts t _ ih => exact ih
  | or ts us a b _ _ iha ihb => obtain ⟨p, h⟩ := iha; obtain ⟨q, g⟩ := ihb; exact ⟨_, h.app ((Bal.one (x := (3, [124])) (by decide) (by decide)).app g)⟩
  | but ts us a b _ _ iha ihb => obtain ⟨p, h⟩ := iha; obtain ⟨q, g⟩ := ihb; exact ⟨_, h.app ((Bal.one (x := (3, [45])) (by decide) (by decide)).app g)⟩

/-! ## One relation -/
theorem expr_end {ts : List KT} {t : Tr} (h : Gr 2 ts t) {toks : List Tok} (hm : toks.map kt = ts) {x : Tok} (hx : kt x = (3, [59])) (r : List Tok) : exprN ((toks ++ x :: r).length + 1) [] (mkP (toks ++ x :: r)) = (layN 0 t, mkP (x :: r)) := by
  have := gr_run h toks (toks ++ x :: r).length hm (x :: r) [] (Nat.le_refl _) (Stop.cons hx (by decide) (by decide) (by decide) _) (Stop.cons hx (by decide) (by decide) (by decide) _)
  rw [this]
  have hstop : opV (mkP (x :: r)) = 0 ∧ opS (mkP (x :: r)) = mkP (x :: r) := by
    unfold opV opS tkS
    rw [takeK hx (by decide) (by decide), takeK hx (by decide) (by decide)]
    exact ⟨rfl, rfl⟩
  rw [exprL_st hstop.1 hstop.2]; rfl
theorem nodes_eq {ts : List KT} {t : Tr} (h : Gr 2 ts t) {toks : List Tok} (hm : toks.map kt = ts) {e x : Tok} (he : kt e = (3, [61])) (hx : kt x = (3, [59])) (r : List Tok) : nodesN (mkP (e :: (toks ++ x :: r))) = (layN 0 t, mkP (x :: r)) := by
  unfold nodesN
  rw [takeK he (by decide) (by decide), decide_eq_true rfl, if_pos rfl, tail_mk]
  exact expr_end h hm hx r
theorem types_none {x : Tok} {k : Nat} {t : List UInt8} (h : kt x = (k, t)) (h0 : ¬ k = 0) (h2 : ¬ k = 2) (hne : ¬ t = [58]) (r : List Tok) : typesN (mkP (x :: r)) = ([], mkP (x :: r)) := by
  unfold typesN
  rw [takeK h h0 h2, decide_eq_false hne]; rfl
theorem one_rel {y : List UInt8} (hy : wordS y = true) {ts : List KT} {t : Tr} (h : Gr 2 ts t) {toks : List Tok} (hm : toks.map kt = ts) {w e x : Tok} (hw : kt w = (1, y)) (he : kt e = (3, [61])) (hx : kt x = (3, [59])) (r : List Tok) :
    relN (mkP (w :: e :: (toks ++ x :: r))) = (⟨y, [], layN 0 t⟩, mkP r) := by
  obtain ⟨e1, e2⟩ := wdS_mk hw hy (e :: (toks ++ x :: r))
  unfold relN
  rw [e1, e2, types_none he (by decide) (by decide) (by decide)]
  dsimp only
  rw [nodes_eq h hm he hx]
  dsimp only
  rw [must_mk hx (by decide) (by decide)]
theorem rels_step {x : Tok} (hx : kt x = (1, kRelation)) {r : List Tok} {rl : RelS} {r' : List Tok} (h : relN (mkP r) = (rl, mkP r')) (m : Nat) (rs : List RelS) : relsL (m + 1) rs (mkP (x :: r)) = relsL m (rs ++ [rl]) (mkP r') := by
  simp only [relsL]
  rw [takeK hx (by decide) (by decide), decide_eq_true rfl, if_pos rfl, tail_mk, h]
theorem rels_end {x : Tok} (hx : kt x = (3, [125])) (r : List Tok) (m : Nat) (rs : List RelS) : relsL m rs (mkP (x :: r)) = (rs, mkP (x :: r)) :=
  relsL_stop (by rw [takeK hx (by decide) (by decide)]; decide) m
theorem space_eq {x : List UInt8} (hx : wordS x = true) {w b c : Tok} (hw : kt w = (1, x)) (hb : kt b = (3, [123])) (hc : kt c = (3, [125])) {r r' : List Tok} {rs : List RelS} (h : relsL r.length [] (mkP r) = (rs, mkP (c :: r'))) : spaceN (mkP (w :: b :: r)) = (⟨x, rs⟩, mkP r') := by
  obtain ⟨e1, e2⟩ := wdS_mk hw hx (b :: r)
  unfold spaceN
  rw [e1, e2, must_mk hb (by decide) (by decide), show (mkP r).l.length = r.length from rfl, h]
  dsimp only
  rw [must_mk hc (by decide) (by decide)]
theorem conf_space {x : Tok} (hx : kt x = (1, kNamespace)) {r r' : List Tok} {s : SpaceS} (h : spaceN (mkP r) = (s, mkP r')) (m : Nat) (c : ConfS) : confL (m + 1) c (mkP (x :: r)) = confL m ⟨c.spaces ++ [s], c.scopes⟩ (mkP r') := by
  simp only [confL]
  rw [if_neg (show ¬ ((mkP (x :: r)).f || (mkP (x :: r)).l.isEmpty) = true from Bool.false_ne_true), takeK hx (by decide) (by decide), decide_eq_true rfl, if_pos rfl, tail_mk, h]
theorem conf_end (m : Nat) (c : ConfS) : confL m c (mkP []) = (c, mkP []) := by cases m <;> rfl
def headT (x y : List UInt8) : List KT := [(1, kNamespace), (1, x), (3, [123]), (1, kRelation), (1, y), (3, [61])]
theorem one_conf {x y : List UInt8} (hx : wordS x = true) (hy : wordS y = true) {ts : List KT} {t : Tr} (h : Gr 2 ts t) {toks : List Tok} (hm : toks.map kt = headT x y ++ (ts ++ [(3, [59]), (3, [125])])) :
    confN ⟨toks, false⟩ = (⟨[⟨x, [⟨y, [], layN 0 t⟩]⟩], []⟩, mkP []) := by
  have hm : toks.map kt = (1, kNamespace) :: (1, x) :: (3, [123]) :: (1, kRelation) :: (1, y) :: (3, [61]) :: (ts ++ [(3, [59]), (3, [125])]) := hm
  obtain ⟨t1, z, rfl, h1, hz⟩ := map_head hm
  obtain ⟨t2, z, rfl, h2, hz⟩ := map_head hz
  obtain ⟨t3, z, rfl, h3, hz⟩ := map_head hz
  obtain ⟨t4, z, rfl, h4, hz⟩ := map_head hz
  obtain ⟨t5, z, rfl, h5, hz⟩ := map_head hz
  obtain ⟨t6, z, rfl, h6, hz⟩ := map_head hz
  obtain ⟨u, z, rfl, hu, hz⟩ := map_split hz
  obtain ⟨t7, z, rfl, h7, hz⟩ := map_head hz
  obtain ⟨t8, z, rfl, h8, hz⟩ := map_head hz
  obtain rfl : z = [] := List.map_eq_nil_iff.1 hz
  have hrel := one_rel hy h hu h5 h6 h7 [t8]
  have hsp : spaceN (mkP (t2 :: t3 :: t4 :: t5 :: t6 :: (u ++ [t7, t8]))) = (⟨x, [⟨y, [], layN 0 t⟩]⟩, mkP []) := by
    refine space_eq hx h2 h3 h8 ?_
    rw [List.length_cons, rels_step h4 hrel]
    exact rels_end h8 [] _ _
  show confL _ ⟨[], []⟩ (mkP (t1 :: t2 :: t3 :: t4 :: t5 :: t6 :: (u ++ [t7, t8]))) = _
  rw [show (PS.mk (t1 :: t2 :: t3 :: t4 :: t5 :: t6 :: (u ++ [t7, t8])) false).l.length = (t2 :: t3 :: t4 :: t5 :: t6 :: (u ++ [t7, t8])).length + 1 from rfl, conf_space h1 hsp]
  exact conf_end _ _
theorem bal_head (x y : List UInt8) : Bal 0 (headT x y) := by
  have o : ∀ (k : Nat) (t : List UInt8), ¬ (k, t) = ((3, [40]) : KT) → ¬ (k, t) = ((3, [41]) : KT) → Bal 0 [(k, t)] := fun k t h1 h2 => Bal.one h1 h2
  have := (o 1 kNamespace (by decide) (by decide)).app ((o 1 x (by simp) (by simp)).app ((o 3 [123] (by decide) (by decide)).app ((o 1 kRelation (by decide) (by decide)).app ((o 1 y (by simp) (by simp)).app (o 3 [61] (by decide) (by decide))))))
  exact this
/-- What is read of tokens, if these are a text's. -/
theorem ruleP_of {s : List UInt8} {l : List KT} (hl : lexK s = some l) (hs : s.length ≤ 16384) {c : ConfS} (hc : ∀ toks : List Tok, toks.map kt = l → confN ⟨toks, false⟩ = (c, mkP [])) :
    ruleP s = if nestK 0 l then (noConf, 5) else if withinN c then (c, 0) else (noConf, 25) := by
  obtain ⟨toks, h1, h2⟩ := lexK_some hl
  have hA : lexA s = (toks, 0) := by unfold lexA; rw [if_neg (by omega), h1]
  unfold ruleP
  rw [hA]
  dsimp only
  rw [if_pos rfl, nest_kt, h2, hc toks h2]
  cases nestK 0 l with
  | true => rfl
  | false => rfl
def textOf (x y e : List UInt8) : List UInt8 := kNamespace ++ 32 :: (x ++ ([32, 123, 32] ++ (kRelation ++ 32 :: (y ++ ([32, 61, 32] ++ (e ++ [59, 32, 125]))))))
theorem names_ns : ∀ c ∈ kNamespace, nameB c = true := by decide
theorem names_rel : ∀ c ∈ kRelation, nameB c = true := by decide
theorem lx_text {x y e : List UInt8} (hx : wordS x = true) (hy : wordS y = true) {ts : List KT} (h : LX e ts) : lexK (textOf x y e) = some (headT x y ++ (ts ++ [(3, [59]), (3, [125])])) := by
  have a1 := LY.wordSp names_ns (by decide)
  have a2 : LY (x ++ [32, 123, 32]) [(1, x), (3, [123])] := LX.y (LX.word hx) (LY.app LY.sp (LY.app (LY.sign (c := 123) (by decide)) LY.sp)) (sep_of (by decide))
  have a3 := LY.wordSp names_rel (by decide)
  have a4 : LY (y ++ [32, 61, 32]) [(1, y), (3, [61])] := LX.y (LX.word hy) (LY.app LY.sp (LY.app (LY.sign (c := 61) (by decide)) LY.sp)) (sep_of (by decide))
  have a5 : LY (e ++ [59, 32, 125]) (ts ++ [(3, [59]), (3, [125])]) := LX.y h (LY.app (LY.sign (c := 59) (by decide)) (LY.app LY.sp (LY.sign (c := 125) (by decide)))) (sep_of (by decide))
  have := (a1.app (a2.app (a3.app (a4.app a5)))).whole
  rw [← List.singleton_append] at this
  simpa [textOf, headT] using this
theorem within_one (x y : List UInt8) {t : Tr} (h : t.ok) : withinN ⟨[⟨x, [⟨y, [], layN 0 t⟩]⟩], []⟩ = (decide (t.size ≤ 64) && decide (t.dep ≤ 16)) := by
  unfold withinN
  simp only [List.all_cons, List.all_nil, fewS, List.any_cons, List.any_nil, muchN, layN_len, layN_deep h, List.length_cons, List.length_nil]
  by_cases h1 : t.size ≤ 64 <;> by_cases h2 : t.dep ≤ 16 <;> simp [h1, h2] <;> omega
theorem nest_text (x y : List UInt8) {ts : List KT} {p : Nat} (hb : Bal p ts) : nestK 0 (headT x y ++ (ts ++ [(3, [59]), (3, [125])])) = decide (16 < p) := by
  rw [bal_head x y 0 _ (by decide), if_neg (by decide), hb 0 _ (by decide)]
  by_cases h : 16 < p
  · rw [if_pos (by omega), decide_eq_true h]
  · rw [if_neg (by omega), decide_eq_false h]; rfl
theorem one_rule {x y e : List UInt8} (hx : wordS x = true) (hy : wordS y = true) {ts : List KT} {t : Tr} {p : Nat} (he : LX e ts) (hg : Gr 2 ts t) (ht : t.ok) (hb : Bal p ts) (hl : (textOf x y e).length ≤ 16384) :
    ruleP (textOf x y e) = if 16 < p then (noConf, 5) else if t.size ≤ 64 ∧ t.dep ≤ 16 then (⟨[⟨x, [⟨y, [], layN 0 t⟩]⟩], []⟩, 0) else (noConf, 25) := by
  rw [ruleP_of (lx_text hx hy he) hl fun toks h => one_conf hx hy hg h, nest_text x y hb, within_one x y ht]
  by_cases h1 : 16 < p
  · simp [h1]
  · by_cases h2 : t.size ≤ 64 <;> by_cases h3 : t.dep ≤ 16 <;> simp [h1, h2, h3]

/-! ## RuleDeep -/
def sLeft : Nat → List UInt8
  | 0 => [97]
  | k + 1 => sLeft k ++ [32, 124, 32, 97]
def sRight : Nat → List UInt8
  | 0 => [97]
  | k + 1 => [97, 32, 124, 32, 40] ++ sRight k ++ [41]
def sSide (b : Bool) (k : Nat) : List UInt8 := if b then sLeft k else sRight k
def sPar (s : List UInt8) : Nat → List UInt8
  | 0 => s
  | k + 1 => [40] ++ sPar s k ++ [41]
theorem sSide_len (b : Bool) (k : Nat) : (sSide b k).length ≤ 1 + 6 * k := by
  unfold sSide
  cases b
  · show (sRight k).length ≤ _
    induction k with
    | zero => exact Nat.le_refl _
    | succ k ih => simp only [sRight, List.length_append, List.length_cons, List.length_nil]; omega
  · show (sLeft k).length ≤ _
    induction k with
    | zero => exact Nat.le_refl _
    | succ k ih => simp only [sLeft, List.length_append, List.length_cons, List.length_nil]; omega
theorem sPar_len (s : List UInt8) (k : Nat) : (sPar s k).length = s.length + 2 * k := by
  induction k with
  | zero => rfl
  | succ k ih => simp only [sPar, List.length_append, List.length_cons, List.length_nil, ih]; omega
theorem wa : wordS [97] = true := by decide
theorem wb : wordS [98] = true := by decide
/-- A text that is read as a tree of such a depth, with so many open signs. -/
def Deeply (s : List UInt8) (d p : Nat) : Prop := ∃ ts t, LX s ts ∧ Gr 2 ts t ∧ t.ok ∧ t.dep = d ∧ t.size + 1 = 2 * d ∧ Bal p ts
theorem deep_left : ∀ k, Deeply (sLeft k) (k + 1) 0
  | 0 => ⟨_, _, LX.word wa, .term _ _ (.fac _ _ (.rel _ wa)), wa, rfl, rfl, Bal.one (by decide) (by decide)⟩
  | k + 1 => by
    obtain ⟨ts, t, h1, h2, h3, h4, h5, h6⟩ := deep_left k
    have a : LX [32, 124, 32, 97] [(3, [124]), (1, [97])] := LY.thenX (LY.app LY.sp (LY.app (LY.sign (c := 124) (by decide)) LY.sp)) (LX.word wa)
    refine ⟨_, _, h1.app a (fun u _ => sep_of (by decide) u), .or _ _ _ _ h2 (.fac _ _ (.rel _ wa)), ⟨.inl rfl, h3, wa⟩, ?_, ?_, (h6.app ((Bal.one (x := (3, [124])) (by decide) (by decide)).app (Bal.one (x := (1, [97])) (by decide) (by decide)))).cast rfl⟩
    · show (if 1 < t.dep then t.dep else 1) + 1 = _
      rw [h4]; split <;> omega
    · show t.size + 1 + 1 + 1 = _; omega
theorem deep_par {s : List UInt8} {d p : Nat} (h : Deeply s d p) : Deeply ([40] ++ s ++ [41]) d (p + 1) := by
  obtain ⟨ts, t, h1, h2, h3, h4, h5, h6⟩ := h
  have a : LX ([40] ++ (s ++ [41])) ([(3, [40])] ++ (ts ++ [(3, [41])])) := LY.thenX (LY.sign (c := 40) (by decide)) (LX.y h1 (LY.sign (c := 41) (by decide)) (sep_of (by decide))).x
  rw [← List.append_assoc] at a
  exact ⟨_, _, a, .term _ _ (.fac _ _ (.par _ _ h2)), h3, h4, h5, h6.par⟩
theorem deep_right : ∀ k, Deeply (sRight k) (k + 1) k
  | 0 => ⟨_, _, LX.word wa, .term _ _ (.fac _ _ (.rel _ wa)), wa, rfl, rfl, Bal.one (by decide) (by decide)⟩
  | k + 1 => by
    obtain ⟨ts, t, h1, h2, h3, h4, h5, h6⟩ := deep_right k
    have a : LX ([97] ++ ([32, 124, 32] ++ ([40] ++ (sRight k ++ [41])))) ([(1, [97])] ++ ([(3, [124])] ++ ([(3, [40])] ++ (ts ++ [(3, [41])])))) := by
      refine LX.app (LX.word wa) (LY.thenX (LY.app LY.sp (LY.app (LY.sign (c := 124) (by decide)) LY.sp)) (LY.thenX (LY.sign (c := 40) (by decide)) (LX.y h1 (LY.sign (c := 41) (by decide)) (sep_of (by decide))).x)) (fun u _ => ?_)
      exact Sep.cons (by decide) _
    have e : [97] ++ ([32, 124, 32] ++ ([40] ++ (sRight k ++ [41]))) = sRight (k + 1) := by simp [sRight]
    rw [e] at a
    refine ⟨_, .op 4 (.rel [97]) t, a, .or [(1, [97])] _ (.rel [97]) _ (.term _ _ (.fac _ _ (.rel _ wa))) (.fac _ _ (.par _ _ h2)), ⟨.inl rfl, wa, h3⟩, ?_, ?_, ((Bal.one (x := (1, [97])) (by decide) (by decide)).app ((Bal.one (x := (3, [124])) (by decide) (by decide)).app h6.par)).cast ?_⟩
    · show (if t.dep < 1 then 1 else t.dep) + 1 = _
      rw [h4]; split <;> omega
    · show 1 + t.size + 1 + 1 = _; omega
    · split
      · rfl
      · omega
theorem deep_pars {s : List UInt8} {d p : Nat} (h : Deeply s d p) : ∀ k, Deeply (sPar s k) d (p + k)
  | 0 => h
  | k + 1 => deep_par (deep_pars h k)
theorem deep_side (b : Bool) (k : Nat) : Deeply (sSide b k) (k + 1) (if b then 0 else k) := by
  cases b
  · exact deep_right k
  · exact deep_left k
/-- What the statement's text is read as. -/
theorem deep_rule (b : Bool) (k q : Nat) (hk : k ≤ 40) (hq : q ≤ 40) : ∃ t : Tr, t.ok ∧ t.dep = k + 1 ∧
    ruleP (textOf [98] [97] (sPar (sSide b k) q)) = if 16 < (if b then 0 else k) + q then (noConf, 5) else if k + 1 ≤ 16 then (⟨[⟨[98], [⟨[97], [], layN 0 t⟩]⟩], []⟩, 0) else (noConf, 25) := by
  obtain ⟨ts, t, h1, h2, h3, h4, h5, h6⟩ := deep_pars (deep_side b k) q
  have hl := sSide_len b k
  refine ⟨t, h3, h4, ?_⟩
  rw [one_rule wb wa h1 h2 h3 h6 (by simp only [textOf, List.length_append, List.length_cons, List.length_nil, sPar_len, kNamespace, kRelation]; omega)]
  by_cases h : 16 < (if b then 0 else k) + q
  · rw [if_pos h, if_pos h]
  · rw [if_neg h, if_neg h]
    by_cases hd : k + 1 ≤ 16
    · rw [if_pos hd, if_pos ⟨by omega, by omega⟩]
    · rw [if_neg hd, if_neg (by omega)]
end Go.Proofs.Ytcgbcbdgjhnlaaa
