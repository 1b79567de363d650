/- Layer 17 (show), plain: the text of what was read of a short text is short enough. -/
import Derived.Test.YtcgbcbdgjhnlaaaPrA
namespace Go.Proofs.Ytcgbcbdgjhnlaaa

/-! ## What tokens weigh -/
def wtT : List Tok → Nat
  | [] => 0
  | x :: r => 16 + x.t.length + wtT r
def wgD (l : List Tok) (i : Nat) : Nat := wtT (l.drop i)
theorem wgD_step {l : List Tok} {i : Nat} {x : Tok} (h : l[i]? = some x) : wgD l i = 16 + x.t.length + wgD l (i + 1) := by
  unfold wgD
  rw [drop_some h]; rfl
theorem wgD_is {l : List Tok} {i : Nat} {s : List UInt8} (h : isD l i s = true) : wgD l i = 16 + s.length + wgD l (i + 1) := by
  unfold isD at h
  split at h
  · rename_i x hx
    simp only [Bool.and_eq_true, decide_eq_true_eq] at h
    rw [wgD_step hx, h.2]
  · cases h
theorem wgD_word {l : List Tok} {i : Nat} (h : wordD l i = true) : wgD l i = 16 + (txD l i).length + wgD l (i + 1) := by
  unfold wordD at h
  unfold txD
  split at h
  · rename_i x hx
    rw [wgD_step hx]
  · cases h
theorem wgD_txt {l : List Tok} {i : Nat} (h : txtD l i = true) : wgD l i = 16 + (txD l i).length + wgD l (i + 1) := by
  unfold txtD at h
  unfold txD
  split at h
  · rename_i x hx
    rw [wgD_step hx]
  · cases h
theorem lex_weight : ∀ (n : Nat) (s : List UInt8) (l : List Tok), lexF n s = some l → wtT l ≤ 17 * s.length
  | 0, _, _, h => by cases h
  | n + 1, s, l, h => by
    have h0 := skipM_len false s
    simp only [lexF] at h
    split at h
    · simp only [Option.some.injEq] at h
      subst h; exact Nat.zero_le _
    · rename_i c r hs
      rw [hs, List.length_cons] at h0
      split at h
      · cases h
      · rename_i k t rest ht
        split at h
        · cases h
        · rename_i l' hl
          simp only [Option.some.injEq] at h
          subst h
          have h1 := lex_weight n rest l' hl
          have h2 : t.length + rest.length ≤ r.length + 1 ∧ rest.length ≤ r.length := by
            refine ⟨?_, tokS_len ht⟩
            unfold tokS at ht
            have key : ∀ p : UInt8 → Bool, (r.takeWhile p).length + (r.dropWhile p).length = r.length := fun p => by rw [← List.length_append, List.takeWhile_append_dropWhile]
            split at ht
            · simp only [Option.some.injEq, Prod.mk.injEq] at ht
              obtain ⟨_, rfl, rfl⟩ := ht
              have := key nameB
              simp only [List.length_cons]; omega
            · split at ht
              · have := key textB
                split at ht
                · rename_i d r' hr
                  rw [hr, List.length_cons] at this
                  split at ht
                  · simp only [Option.some.injEq, Prod.mk.injEq] at ht
                    obtain ⟨_, rfl, rfl⟩ := ht
                    omega
                  · cases ht
                · cases ht
              · split at ht
                · rename_i r' hr
                  simp only [Option.some.injEq, Prod.mk.injEq] at ht
                  obtain ⟨_, rfl, rfl⟩ := ht
                  split at hr
                  · split at hr
                    · split at hr
                      · simp only [Option.some.injEq] at hr
                        subst hr
                        simp only [List.length_cons, List.length_nil]; omega
                      · cases hr
                    · cases hr
                  · cases hr
                · split at ht
                  · simp only [Option.some.injEq, Prod.mk.injEq] at ht
                    obtain ⟨_, rfl, rfl⟩ := ht
                    simp only [List.length_cons, List.length_nil]; omega
                  · cases ht
          show 16 + t.length + wtT l' ≤ _
          omega

/-! ## Expressions -/
def cN (n : NodeS) : Nat := if isOp n then 7 else n.rel.length + n.thn.length + 4
def cNs (l : List NodeS) : Nat := (l.map cN).sum
theorem cNs_app (a b : List NodeS) : cNs (a ++ b) = cNs a + cNs b := by simp [cNs]
theorem cNs_one (n : NodeS) : cNs [n] = cN n := by simp [cNs]
theorem cN_op (k : Int) (a b : Int) : cN ⟨k, [], [], a, b⟩ ≤ 7 := by unfold cN; split <;> simp
theorem txt_cost : ∀ (t : Tr) (m : Nat), t.ok → (txtT t).length ≤ cNs (layN m t)
  | .this, m, _ => by simp [layN, cNs, cN, isOp, txtT, kThis]
  | .rel w, m, _ => by simp [layN, cNs, cN, isOp, txtT]
  | .arrow w v, m, _ => by simp only [layN, cNs_one, cN, isOp, txtT, List.length_append, List.length_cons, List.length_nil]; simp; omega
  | .op k a b, m, h => by
    have ha := txt_cost a m h.2.1
    have hb := txt_cost b (m + a.size) h.2.2
    have h3 := opd_len (bindK k) a (txtT a)
    have h4 := opd_len (bindK k + 1) b (txtT b)
    have hk : cN ⟨k, [], [], ((m + a.size : Nat) : Int) - 1, ((m + a.size + b.size : Nat) : Int) - 1⟩ = 7 := by
      have : isOp ⟨k, [], [], ((m + a.size : Nat) : Int) - 1, ((m + a.size + b.size : Nat) : Int) - 1⟩ = true := by
        unfold isOp
        simp only [Bool.or_eq_true, decide_eq_true_eq]
        have := h.1
        omega
      unfold cN
      rw [if_pos this]
    simp only [layN, cNs_app, cNs_one, txtT, List.length_append, signK_len]
    omega
def LenE (l : List Tok) (ex : Nat → Nat → List NodeS → ND) : Prop := ∀ i least ns ns' j, 1 ≤ least → ex i least ns = some (ns', j) → cNs ns' + wgD l j ≤ cNs ns + wgD l i
theorem head_cost {l : List Tok} {ex : Nat → Nat → List NodeS → ND} (h : LenE l ex) {i : Nat} {ns ns' : List NodeS} {j : Nat} (e : headD ex l i ns = some (ns', j)) : cNs ns' + wgD l j ≤ cNs ns + wgD l i := by
  unfold headD at e
  split at e
  · rename_i h1
    have a := wgD_is h1
    cases hx : ex (i + 1) 1 ns with
    | none => rw [hx] at e; cases e
    | some p =>
      obtain ⟨ns2, k⟩ := p
      rw [hx] at e
      have b := h _ _ _ _ _ (Nat.le_refl _) hx
      simp only [closeD] at e
      split at e
      · rename_i h2
        have c := wgD_is h2
        simp only [Option.some.injEq, Prod.mk.injEq] at e
        obtain ⟨rfl, rfl⟩ := e
        omega
      · cases e
  · split at e
    · rename_i h1
      have a := wgD_is h1
      simp only [Option.some.injEq, Prod.mk.injEq] at e
      obtain ⟨rfl, rfl⟩ := e
      rw [cNs_app, cNs_one]
      have : cN ⟨1, [], [], 0, 0⟩ = 4 := rfl
      omega
    · split at e
      · rename_i h1
        simp only [Bool.and_eq_true] at h1
        have a := wgD_word h1.1
        have b := wgD_is h1.2
        split at e
        · rename_i h2
          have c := wgD_word h2
          simp only [Nat.add_assoc, Nat.reduceAdd] at a b c
          simp only [Option.some.injEq, Prod.mk.injEq] at e
          obtain ⟨rfl, rfl⟩ := e
          rw [cNs_app, cNs_one]
          have : cN ⟨3, txD l i, txD l (i + 2), 0, 0⟩ = (txD l i).length + (txD l (i + 2)).length + 4 := rfl
          omega
        · cases e
      · split at e
        · rename_i h1
          have a := wgD_word h1
          simp only [Option.some.injEq, Prod.mk.injEq] at e
          obtain ⟨rfl, rfl⟩ := e
          rw [cNs_app, cNs_one]
          have : cN ⟨2, txD l i, [], 0, 0⟩ = (txD l i).length + 0 + 4 := rfl
          omega
        · cases e
theorem rank_weight {l : List Tok} {j : Nat} (h : 1 ≤ rankD l j) : 17 + wgD l (j + 1) ≤ wgD l j := by
  unfold rankD at h
  split at h
  · rename_i h1
    simp only [Bool.or_eq_true] at h1
    rcases h1 with h1 | h1
    · have := wgD_is h1; simp only [List.length_cons, List.length_nil] at this; omega
    · have := wgD_is h1; simp only [List.length_cons, List.length_nil] at this; omega
  · split at h
    · rename_i h1
      have := wgD_is h1; simp only [List.length_cons, List.length_nil] at this; omega
    · omega
theorem loop_cost {l : List Tok} {ex : Nat → Nat → List NodeS → ND} (h : LenE l ex) {least : Nat} (hl : 1 ≤ least) : ∀ (m : Nat) (ns ns' : List NodeS) (i j : Nat), loopD ex l least m ns i = some (ns', j) → cNs ns' + wgD l j ≤ cNs ns + wgD l i
  | 0, _, _, _, _, e => by cases e
  | m + 1, ns, ns', i, j, e => by
    simp only [loopD] at e
    split at e
    · rename_i hr
      have a := rank_weight (l := l) (j := i) (by omega)
      split at e
      · rename_i n2 k hx
        have b := h _ _ _ _ _ (by omega) hx
        have c := loop_cost h hl m _ _ _ _ e
        unfold joinN at c
        rw [cNs_app, cNs_one] at c
        have d := cN_op (oprD (txD l i) : Nat) ((ns.length : Int) - 1) ((n2.length : Int) - 1)
        omega
      · cases e
    · simp only [Option.some.injEq, Prod.mk.injEq] at e
      obtain ⟨rfl, rfl⟩ := e
      exact Nat.le_refl _
theorem expr_cost (l : List Tok) : ∀ f : Nat, LenE l (exprD l f)
  | 0, _, _, _, _, _, _, e => by cases e
  | f + 1, i, least, ns, ns', j, hl, e => by
    simp only [exprD] at e
    split at e
    · rename_i n2 k hx
      have a := head_cost (expr_cost l f) hx
      have b := loop_cost (expr_cost l f) hl _ _ _ _ _ e
      omega
    · cases e

/-! ## Relations, namespaces, scopes -/
theorem kind_cost {l : List Tok} {i j : Nat} {t : TypS} (e : kindD l i = some (t, j)) : (kindT t).length + wgD l j ≤ wgD l i := by
  unfold kindD at e
  split at e
  · rename_i h
    have a := wgD_is h
    simp only [Option.some.injEq, Prod.mk.injEq] at e
    obtain ⟨rfl, rfl⟩ := e
    have : (kindT ⟨[], []⟩).length = 4 := rfl
    omega
  · split at e
    · rename_i h
      simp only [Bool.and_eq_true] at h
      have a := wgD_word h.1
      have b := wgD_is h.2.1
      have c := wgD_word h.2.2
      simp only [Nat.add_assoc, Nat.reduceAdd] at a b c
      simp only [Option.some.injEq, Prod.mk.injEq] at e
      obtain ⟨rfl, rfl⟩ := e
      have d : (kindT ⟨txD l i, txD l (i + 2)⟩).length ≤ (txD l i).length + (txD l (i + 2)).length + 4 := by
        unfold kindT
        split
        · simp
        · simp only [List.length_append, List.length_cons, List.length_nil]; omega
      omega
    · cases e
theorem types_cost {l : List Tok} : ∀ (m : Nat) (ts ts' : List TypS) (i j : Nat), 17 + wgD l (i + 1) ≤ wgD l i → typesD l m ts i = some (ts', j) → (typsT 0 ts').length + wgD l j ≤ (typsT 0 ts).length + wgD l i
  | 0, _, _, _, _, _, e => by cases e
  | m + 1, ts, ts', i, j, hi, e => by
    simp only [typesD] at e
    split at e
    · rename_i t k hx
      have a := kind_cost hx
      have b : (typsT 0 (ts ++ [t])).length ≤ (typsT 0 ts).length + 3 + (kindT t).length := by
        rw [typsT_snoc, List.length_append, List.length_append]
        have : (sepT (0 + ts.length)).length ≤ 3 := by unfold sepT; split <;> decide
        omega
      split at e
      · rename_i h2
        have c := wgD_is h2
        have d := types_cost m _ _ _ _ (by simp only [List.length_cons, List.length_nil] at c; omega) e
        omega
      · simp only [Option.some.injEq, Prod.mk.injEq] at e
        obtain ⟨rfl, rfl⟩ := e
        omega
    · cases e
theorem typs_cost {l : List Tok} {i j : Nat} {ts : List TypS} (e : typsD l i = some (ts, j)) : (typsT 0 ts).length + wgD l j ≤ wgD l i := by
  unfold typsD at e
  split at e
  · rename_i h
    have a := wgD_is h
    have := types_cost _ _ _ _ _ (by simp only [List.length_cons, List.length_nil] at a; omega) e
    have h0 : (typsT 0 []).length = 0 := rfl
    omega
  · simp only [Option.some.injEq, Prod.mk.injEq] at e
    obtain ⟨rfl, rfl⟩ := e
    have h0 : (typsT 0 []).length = 0 := rfl
    omega
theorem nods_cost {T : List NodeS → Tr} (hT : TreeF T) {l : List Tok} {i j : Nat} {ns : List NodeS} (e : nodsD l i = some (ns, j)) : (if onlyThis ns then ([] : List UInt8) else [32, 61, 32] ++ txtT (T ns)).length + wgD l j ≤ wgD l i := by
  have h0 := nods_ok e
  unfold nodsD at e
  split at e
  · rename_i h
    have a := wgD_is h
    have b := expr_cost l _ _ _ _ _ _ (Nat.le_refl _) e
    have c := hT ns h0
    have d := txt_cost (T ns) 0 c.1
    rw [← c.2.1] at d
    have hn : cNs ([] : List NodeS) = 0 := rfl
    split
    · simp only [List.length_nil]; omega
    · simp only [List.length_append, List.length_cons, List.length_nil] at a ⊢; omega
  · simp only [Option.some.injEq, Prod.mk.injEq] at e
    obtain ⟨rfl, rfl⟩ := e
    show 0 + _ ≤ _
    omega
theorem rel_cost {T : List NodeS → Tr} (hT : TreeF T) {l : List Tok} {i j : Nat} {r : RelS} (e : relD l i = some (r, j)) : (pRel T r).length + wgD l j ≤ wgD l i := by
  unfold relD at e
  split at e
  · rename_i hw
    have a := wgD_word hw
    split at e
    · rename_i ts k hx
      have b := typs_cost hx
      split at e
      · rename_i ns k2 hy
        have c := nods_cost hT hy
        split at e
        · rename_i h3
          have d := wgD_is h3
          simp only [Option.some.injEq, Prod.mk.injEq] at e
          obtain ⟨rfl, rfl⟩ := e
          unfold pRel lineT
          simp only [List.length_append, kRelation', List.length_cons, List.length_nil] at c d ⊢
          omega
        · cases e
      · cases e
    · cases e
  · cases e
theorem cat_snoc {α : Type} (f : α → List UInt8) (l : List α) (x : α) : catT f (l ++ [x]) = catT f l ++ f x := by simp [catT]
theorem rels_cost {T : List NodeS → Tr} (hT : TreeF T) {l : List Tok} : ∀ (m : Nat) (rs rs' : List RelS) (i j : Nat), relsD l m rs i = some (rs', j) → (catT (pRel T) rs').length + wgD l j ≤ (catT (pRel T) rs).length + wgD l i
  | 0, _, _, _, _, e => by cases e
  | m + 1, rs, rs', i, j, e => by
    simp only [relsD] at e
    split at e
    · rename_i h
      have a := wgD_is h
      split at e
      · rename_i r k hx
        have b := rel_cost hT hx
        have c := rels_cost hT m _ _ _ _ e
        rw [cat_snoc, List.length_append] at c
        omega
      · cases e
    · simp only [Option.some.injEq, Prod.mk.injEq] at e
      obtain ⟨rfl, rfl⟩ := e; exact Nat.le_refl _
theorem space_cost {T : List NodeS → Tr} (hT : TreeF T) {l : List Tok} {i j : Nat} {s : SpaceS} (e : spaceD l i = some (s, j)) : (pSp T s).length + wgD l j ≤ wgD l i := by
  unfold spaceD at e
  split at e
  · rename_i hw
    simp only [Bool.and_eq_true] at hw
    have a := wgD_word hw.1
    have b := wgD_is hw.2
    simp only [Nat.add_assoc, Nat.reduceAdd] at a b
    split at e
    · rename_i rs k hx
      have c := rels_cost hT _ _ _ _ _ hx
      split at e
      · rename_i h3
        have d := wgD_is h3
        simp only [Option.some.injEq, Prod.mk.injEq] at e
        obtain ⟨rfl, rfl⟩ := e
        have h0 : (catT (pRel T) []).length = 0 := rfl
        unfold pSp
        simp only [List.length_append, kNs', List.length_cons, List.length_nil] at b d ⊢
        omega
      · cases e
    · cases e
  · cases e
theorem scope_cost {l : List Tok} {i j : Nat} {s : ScopeS} (e : scopeD l i = some (s, j)) : (pSc s).length + wgD l j ≤ wgD l i := by
  unfold scopeD at e
  split at e
  · rename_i hw
    simp only [Bool.and_eq_true] at hw
    have a := wgD_word hw.1
    have b := wgD_is hw.2.1
    have c := wgD_txt hw.2.2.1
    have d := wgD_is hw.2.2.2
    simp only [Nat.add_assoc, Nat.reduceAdd] at a b c d
    split at e
    · rename_i u v hc
      split at e
      · rename_i h
        simp only [Bool.and_eq_true] at h
        simp only [Option.some.injEq, Prod.mk.injEq] at e
        obtain ⟨rfl, rfl⟩ := e
        have hl : (txD l (i + 2)).length = u.length + (v.length + 1) := by rw [cutL_some hc, List.length_append, List.length_cons]
        have hr : refT (refR u) = u := by
          obtain ⟨h1, h2⟩ := refR_P u
          rw [h.1] at h1
          cases hp : refP u with
          | none => rw [hp] at h1; cases h1
          | some r => rw [h2 r hp]; exact (refP_some hp).1
        unfold pSc
        dsimp only
        rw [hr]
        simp only [List.length_append, kSc', List.length_cons, List.length_nil] at b d ⊢
        omega
      · cases e
    · cases e
  · cases e
theorem conf_cost {T : List NodeS → Tr} (hT : TreeF T) {l : List Tok} : ∀ (m : Nat) (c c' : ConfS) (i : Nat), confD l m c i = some c' → (pConf T c').length ≤ (pConf T c).length + wgD l i
  | 0, _, _, _, e => by cases e
  | m + 1, c, c', i, e => by
    simp only [confD] at e
    split at e
    · split at e
      · rename_i h
        have a := wgD_is h
        split at e
        · rename_i s k hx
          have b := space_cost hT hx
          have d := conf_cost hT m _ _ _ e
          unfold pConf at d ⊢
          dsimp only at d
          rw [cat_snoc] at d
          simp only [List.length_append] at d ⊢
          omega
        · cases e
      · split at e
        · rename_i h
          have a := wgD_is h
          split at e
          · rename_i s k hx
            have b := scope_cost hx
            have d := conf_cost hT m _ _ _ e
            unfold pConf at d ⊢
            dsimp only at d
            rw [cat_snoc] at d
            simp only [List.length_append] at d ⊢
            omega
          · cases e
        · cases e
    · simp only [Option.some.injEq] at e
      subst e; omega
/-- Of a text of 900 bytes. -/
theorem read_short {T : List NodeS → Tr} (hT : TreeF T) {s : List UInt8} (hs : s.length ≤ 900) (h : (ruleP s).2 = 0) : (pConf T (ruleP s).1).length ≤ 16384 := by
  rw [(rule_is s).1] at h ⊢
  unfold ruleD at h ⊢
  cases hl : lexS s with
  | none =>
    have hA : lexA s = ([], 4) := by unfold lexA; rw [if_neg (by omega), hl]
    rw [hA] at h; cases h
  | some l =>
    have hA : lexA s = (l, 0) := by unfold lexA; rw [if_neg (by omega), hl]
    rw [hA] at h ⊢
    dsimp only at h ⊢
    rw [if_pos rfl] at h ⊢
    split at h
    · cases h
    · rename_i hn
      rw [if_neg hn]
      split at h
      · cases h
      · rename_i c hc
        split at h
        · cases h
        · rename_i hm
          rw [if_neg hm]
          have a := conf_cost hT _ _ _ _ hc
          have b := lex_weight _ _ _ hl
          have h0 : (pConf T noConf).length = 0 := rfl
          have e : wgD l 0 = wtT l := rfl
          show (pConf T c).length ≤ _
          omega
end Go.Proofs.Ytcgbcbdgjhnlaaa
