/- Expressions as trees: their nodes, their tokens; what is parsed of these. -/
import Derived.Test.YtcgbcbdgjhnlaaaPH
namespace Go.Proofs.Ytcgbcbdgjhnlaaa

inductive Tr where
  | this
  | rel (w : List UInt8)
  | arrow (w v : List UInt8)
  | op (k : Nat) (a b : Tr)
def Tr.size : Tr → Nat
  | .op _ a b => a.size + b.size + 1
  | _ => 1
def Tr.dep : Tr → Nat
  | .op _ a b => (if b.dep < a.dep then a.dep else b.dep) + 1
  | _ => 1
def Tr.ok : Tr → Prop
  | .this => True
  | .rel w => wordS w = true
  | .arrow w v => wordS w = true ∧ wordS v = true
  | .op k a b => (k = 4 ∨ k = 5 ∨ k = 6) ∧ a.ok ∧ b.ok
/-- Its nodes, behind so many others. -/
def layN : Nat → Tr → List NodeS
  | _, .this => [⟨1, [], [], 0, 0⟩]
  | _, .rel w => [⟨2, w, [], 0, 0⟩]
  | _, .arrow w v => [⟨3, w, v, 0, 0⟩]
  | m, .op k a b => layN m a ++ layN (m + a.size) b ++ [⟨k, [], [], ((m + a.size : Nat) : Int) - 1, ((m + a.size + b.size : Nat) : Int) - 1⟩]
theorem Tr.size_pos (t : Tr) : 1 ≤ t.size := by cases t <;> simp [Tr.size]
theorem layN_len : ∀ (t : Tr) (m : Nat), (layN m t).length = t.size
  | .this, _ => rfl
  | .rel _, _ => rfl
  | .arrow _ _, _ => rfl
  | .op k a b, m => by simp only [layN, List.length_append, layN_len a, layN_len b, List.length_singleton, Tr.size]
theorem layN_seg : ∀ (t : Tr) (m : Nat), t.ok → Seg m (m + t.size) t.dep (layN m t)
  | .this, m, _ => Seg.leaf rfl rfl m
  | .rel w, m, h => Seg.leaf rfl (by have h : wordS w = true := h; simp [leafN, h]) m
  | .arrow w v, m, h => Seg.leaf rfl (by obtain ⟨h1, h2⟩ : wordS w = true ∧ wordS v = true := h; simp [leafN, h1, h2]) m
  | .op k a b, m, h => by
    obtain ⟨hk, ha, hb⟩ := h
    show Seg m (m + (a.size + b.size + 1)) _ _
    rw [show m + (a.size + b.size + 1) = m + a.size + b.size + 1 by omega]
    exact Seg.join (layN_seg a m ha) (layN_seg b (m + a.size) hb) (by omega)
theorem layN_deep {t : Tr} (h : t.ok) : deepN (layN 0 t) = t.dep := by
  have := layN_seg t 0 h
  refine deep_seg ?_
  rw [layN_len]
  rw [Nat.zero_add] at this; exact this
/-- What is a tree by the document's reckoning is one. -/
theorem tree_lay {l : List NodeS} : ∀ (f e a d : Nat), treeD l f e = some (a, d) → ∃ t : Tr, t.ok ∧ t.dep = d ∧ (l.drop a).take (e - a) = layN a t ∧ a + t.size = e
  | 0, e, a, d, h => by cases h
  | f + 1, 0, a, d, h => by cases h
  | f + 1, e + 1, a, d, h => by
    simp only [treeD] at h
    split at h
    · cases h
    · rename_i n hn
      have hl := (List.getElem?_eq_some_iff.1 hn).1
      split at h
      · rename_i hop
        split at h
        · cases h
        · rename_i b x hb
          obtain ⟨t2, o2, d2, s2, z2⟩ := tree_lay f _ _ _ hb
          split at h
          · cases h
          · rename_i a' y ha
            obtain ⟨t1, o1, d1, s1, z1⟩ := tree_lay f _ _ _ ha
            split at h
            · rename_i hc
              simp only [Option.some.injEq, Prod.mk.injEq] at h
              obtain ⟨rfl, rfl⟩ := h
              have q1 := t1.size_pos
              have q2 := t2.size_pos
              have hk : n.kind = 4 ∨ n.kind = 5 ∨ n.kind = 6 := by
                unfold isOp at hop
                simp only [Bool.or_eq_true, decide_eq_true_eq] at hop
                omega
              have ek : ((n.kind.toNat : Nat) : Int) = n.kind := by omega
              refine ⟨.op n.kind.toNat t1 t2, ⟨by omega, o1, o2⟩, ?_, ?_, ?_⟩
              · show (if t2.dep < t1.dep then t1.dep else t2.dep) + 1 = _
                rw [d1, d2]
              · have es : (l.drop a').take (e + 1 - a') = (l.drop a').take (b - a') ++ (l.drop b).take (e - b) ++ [n] := by
                  have e1 : (l.drop a').take (e - a') = (l.drop a').take (b - a') ++ (l.drop b).take (e - b) := by
                    rw [show e - a' = (b - a') + (e - b) by omega, List.take_add, List.drop_drop, show a' + (b - a') = b by omega]
                  rw [show e + 1 - a' = (e - a') + 1 by omega, List.take_add_one, e1, List.getElem?_drop, show a' + (e - a') = e by omega, hn]; rfl
                rw [es, s1, s2]
                obtain ⟨k, r, t, na, nb⟩ := n
                obtain ⟨h1, h2, h3, h4⟩ := hc
                dsimp only at h1 h2 h3 h4
                simp only [layN]
                rw [z1, z2, h1, h2, h3, h4, ek]
              · show a' + (t1.size + t2.size + 1) = _; omega
            · cases h
      · rename_i hop
        split at h
        · rename_i hleaf
          simp only [Option.some.injEq, Prod.mk.injEq] at h
          obtain ⟨rfl, rfl⟩ := h
          have es : (l.drop e).take (e + 1 - e) = [n] := by
            rw [show e + 1 - e = 0 + 1 by omega, List.take_add_one, List.getElem?_drop, Nat.add_zero, hn]; rfl
          obtain ⟨k, r, t, na, nb⟩ := n
          unfold leafN at hleaf
          simp only [Bool.and_eq_true, decide_eq_true_eq] at hleaf
          obtain ⟨⟨rfl, rfl⟩, hleaf⟩ := hleaf
          rw [es]
          split at hleaf
          · rename_i hk
            simp only [Bool.and_eq_true, decide_eq_true_eq] at hleaf
            obtain ⟨rfl, rfl⟩ := hleaf
            subst hk
            exact ⟨.this, trivial, rfl, rfl, rfl⟩
          · split at hleaf
            · rename_i hk
              simp only [Bool.and_eq_true, decide_eq_true_eq] at hleaf
              obtain ⟨hw, rfl⟩ := hleaf
              subst hk
              exact ⟨.rel r, hw, rfl, rfl, rfl⟩
            · split at hleaf
              · rename_i hk
                simp only [Bool.and_eq_true] at hleaf
                subst hk
                exact ⟨.arrow r t, hleaf, rfl, rfl, rfl⟩
              · cases hleaf
        · cases h
theorem deep_lay {l : List NodeS} (h : ¬ deepN l = 0) : ∃ t : Tr, t.ok ∧ l = layN 0 t ∧ deepN l = t.dep := by
  rw [deep_is] at h ⊢
  unfold deepD at h ⊢
  cases ht : treeD l l.length l.length with
  | none => rw [ht] at h; exact absurd rfl h
  | some p =>
    obtain ⟨a, d⟩ := p
    rw [ht] at h
    cases a with
    | succ a => exact absurd rfl h
    | zero =>
      obtain ⟨t, h1, h2, h3, h4⟩ := tree_lay _ _ _ _ ht
      refine ⟨t, h1, ?_, by rw [h2]; rfl⟩
      rw [← h3, List.drop_zero, Nat.sub_zero, List.take_length]

/-! ## Tokens -/
abbrev KT := Nat × List UInt8
def kt (x : Tok) : KT := (x.k, x.t)
inductive Gr : Nat → List KT → Tr → Prop where
  | this : Gr 0 [(1, kThis)] .this
  | rel (w : List UInt8) : wordS w = true → Gr 0 [(1, w)] (.rel w)
  | arrow (w v : List UInt8) : wordS w = true → wordS v = true → Gr 0 [(1, w), (3, [45, 62]), (1, v)] (.arrow w v)
  | par (ts : List KT) (t : Tr) : Gr 2 ts t → Gr 0 ((3, [40]) :: (ts ++ [(3, [41])])) t
  | fac (ts : List KT) (t : Tr) : Gr 0 ts t → Gr 1 ts t
  | and (ts us : List KT) (a b : Tr) : Gr 1 ts a → Gr 0 us b → Gr 1 (ts ++ (3, [38]) :: us) (.op 5 a b)
  | term (ts : List KT) (t : Tr) : Gr 1 ts t → Gr 2 ts t
  | or (ts us : List KT) (a b : Tr) : Gr 2 ts a → Gr 1 us b → Gr 2 (ts ++ (3, [124]) :: us) (.op 4 a b)
  | but (ts us : List KT) (a b : Tr) : Gr 2 ts a → Gr 1 us b → Gr 2 (ts ++ (3, [45]) :: us) (.op 6 a b)
theorem isT_of {x : Tok} {k : Nat} {t : List UInt8} (h : kt x = (k, t)) (h0 : ¬ k = 0) (h2 : ¬ k = 2) (s : List UInt8) : isT s x = decide (t = s) := by
  simp only [kt, Prod.mk.injEq] at h
  unfold isT
  rw [h.1, h.2, decide_eq_false h0, decide_eq_false h2]; rfl
theorem wordT_of {x : Tok} {t : List UInt8} (h : kt x = (1, t)) : wordT x = wordS t := by
  simp only [kt, Prod.mk.injEq] at h
  unfold wordT
  rw [h.1, h.2]; rfl
theorem word_ne {w s : List UInt8} (hw : wordS w = true) (hs : wordS s = false) : ¬ w = s := fun e => by rw [e, hs] at hw; cases hw
theorem take_cons {x : Tok} {k : Nat} {t : List UInt8} (h : kt x = (k, t)) (h0 : ¬ k = 0) (h2 : ¬ k = 2) (s : List UInt8) (r : List Tok) (f : Bool) : takeB s (PS.mk (x :: r) f).l = decide (t = s) := isT_of h h0 h2 s
def mkP (r : List Tok) : PS := ⟨r, false⟩
theorem tail_mk (x : Tok) (r : List Tok) : (mkP (x :: r)).tail = mkP r := rfl
theorem takeK {x : Tok} {k : Nat} {t : List UInt8} (h : kt x = (k, t)) (h0 : ¬ k = 0) (h2 : ¬ k = 2) (s : List UInt8) (r : List Tok) : takeB s (mkP (x :: r)).l = decide (t = s) := isT_of h h0 h2 s
theorem wdS_mk {x : Tok} {t : List UInt8} (h : kt x = (1, t)) (hw : wordS t = true) (r : List Tok) : wdS (mkP (x :: r)) = mkP r ∧ wdV (mkP (x :: r)) = t := by
  have hx : wordT x = true := by rw [wordT_of h, hw]
  have ht : x.t = t := by simp only [kt, Prod.mk.injEq] at h; exact h.2
  constructor
  · unfold wdS; rw [show wdB (mkP (x :: r)) = wordT x from rfl, hx]; rfl
  · show (if wordT x then x.t else []) = t
    rw [hx, if_pos rfl, ht]
theorem must_mk {x : Tok} {k : Nat} {t : List UInt8} (h : kt x = (k, t)) (h0 : ¬ k = 0) (h2 : ¬ k = 2) (r : List Tok) : mustS t (mkP (x :: r)) = mkP r := by
  unfold mustS
  rw [takeK h h0 h2, decide_eq_true rfl]; rfl
theorem map_split {toks : List Tok} {a b : List KT} (h : toks.map kt = a ++ b) : ∃ x y, toks = x ++ y ∧ x.map kt = a ∧ y.map kt = b := by
  obtain ⟨x, y, h1, h2, h3⟩ := List.map_eq_append_iff.1 h
  exact ⟨x, y, h1, h2, h3⟩
theorem map_head {toks : List Tok} {a : KT} {b : List KT} (h : toks.map kt = a :: b) : ∃ x y, toks = x :: y ∧ kt x = a ∧ y.map kt = b := by
  obtain ⟨x, y, h1, h2, h3⟩ := List.map_eq_cons_iff.1 h
  exact ⟨x, y, h1, h2, h3⟩
def Stop (s : List UInt8) (post : List Tok) : Prop := takeB s post = false
theorem Stop.cons {x : Tok} {k : Nat} {t : List UInt8} (h : kt x = (k, t)) (h0 : ¬ k = 0) (h2 : ¬ k = 2) {s : List UInt8} (hs : ¬ t = s) (r : List Tok) : Stop s (x :: r) := by
  show isT s x = false
  rw [isT_of h h0 h2]; exact decide_eq_false hs
/-- What a part of the parser makes of tokens, and goes on. -/
def Run (n : Nat) (t : Tr) (toks : List Tok) : Nat → Prop
  | 0 => ∀ (post : List Tok) (ns : List NodeS), (toks ++ post).length ≤ n → Stop [45, 62] post → facN (exprN n) ns (mkP (toks ++ post)) = (ns ++ layN ns.length t, mkP post)
  | 1 => ∀ (post : List Tok) (ns : List NodeS), (toks ++ post).length ≤ n → Stop [45, 62] post → termN (exprN n) ns (mkP (toks ++ post)) = termL (facN (exprN n)) post.length (ns ++ layN ns.length t) (mkP post)
  | _ => ∀ (post : List Tok) (ns : List NodeS), (toks ++ post).length ≤ n → Stop [45, 62] post → Stop [38] post → exprN (n + 1) ns (mkP (toks ++ post)) = exprL (termN (exprN n)) post.length (ns ++ layN ns.length t) (mkP post)
theorem joinN_layN (k : Nat) (ns : List NodeS) (a b : Tr) : joinN k (ns ++ layN ns.length a) (ns ++ layN ns.length a ++ layN (ns.length + a.size) b) = ns ++ layN ns.length (.op k a b) := by
  unfold joinN
  simp only [layN, List.length_append, layN_len, List.append_assoc, Nat.add_assoc]
theorem w45 : wordS [45, 62] = false := by decide
theorem w40 : wordS [40] = false := by decide
theorem wThis : wordS kThis = false := by decide
/-- A further term. -/
theorem op_run {n k : Nat} {c : UInt8} (hc : (c = 124 ∧ k = 4) ∨ (c = 45 ∧ k = 6)) {a b : Tr} {x y : List Tok} {z : Tok} (hz : kt z = (3, [c])) (iha : Run n a x 2) (ihb : Run n b y 1) : Run n (.op k a b) (x ++ z :: y) 2 := by
  intro post ns hlen hs1 hs2
  have fits := fac_fit (expr_fit n)
  have fitt := term_fit (expr_fit n)
  have hne : ¬ [c] = [45, 62] := by simp
  have h38 : ¬ [c] = [38] := by rcases hc with ⟨rfl, _⟩ | ⟨rfl, _⟩ <;> decide
  have hl : x.length + (y.length + post.length) + 1 ≤ n := by
    simp only [List.length_append, List.length_cons] at hlen; omega
  have e1 := iha (z :: (y ++ post)) ns (by simp only [List.length_append, List.length_cons]; omega) (Stop.cons hz (by decide) (by decide) hne _) (Stop.cons hz (by decide) (by decide) h38 _)
  have hb := ihb post (ns ++ layN ns.length a) (by simp only [List.length_append]; omega) hs1
  rw [List.append_assoc, List.cons_append, e1]
  have ht : opV (mkP (z :: (y ++ post))) = k ∧ opS (mkP (z :: (y ++ post))) = mkP (y ++ post) := by
    unfold opV opS tkS
    rw [takeK hz (by decide) (by decide), takeK hz (by decide) (by decide)]
    rcases hc with ⟨rfl, rfl⟩ | ⟨rfl, rfl⟩
    · exact ⟨rfl, rfl⟩
    · exact ⟨rfl, rfl⟩
  have hk0 : ¬ k = 0 := by rcases hc with ⟨_, rfl⟩ | ⟨_, rfl⟩ <;> decide
  rw [show (z :: (y ++ post)).length = (y ++ post).length + 1 from rfl]
  simp only [exprL]
  rw [ht.1, ht.2, decide_eq_false hk0]
  rw [show (!false && !(mkP (y ++ post)).f) = true from rfl, if_pos rfl, hb]
  have hstop : takeB [38] (mkP post).l = false := hs2
  rw [termL_st hstop]
  dsimp only
  rw [show (ns ++ layN ns.length a).length = ns.length + a.size by rw [List.length_append, layN_len], joinN_layN]
  exact exprL_more fitt _ _ _ _ (by show post.length ≤ _; simp) (by show post.length ≤ _; exact Nat.le_refl _) (by show post.length ≤ _; omega)
theorem gr_run {lev : Nat} {ts : List KT} {t : Tr} (h : Gr lev ts t) : ∀ (toks : List Tok) (n : Nat), toks.map kt = ts → Run n t toks lev := by
  induction h with
  | this =>
    intro toks n hm post ns hlen hs
    obtain ⟨x, y, rfl, hx, hy⟩ := map_head hm
    obtain rfl : y = [] := List.map_eq_nil_iff.1 hy
    unfold facN
    rw [List.cons_append, takeK hx (by decide) (by decide), decide_eq_true rfl, if_pos rfl]; rfl
  | rel w hw =>
    intro toks n hm post ns hlen hs
    obtain ⟨x, y, rfl, hx, hy⟩ := map_head hm
    obtain rfl : y = [] := List.map_eq_nil_iff.1 hy
    obtain ⟨e1, e2⟩ := wdS_mk hx hw post
    unfold facN
    rw [List.cons_append, List.nil_append, takeK hx (by decide) (by decide), takeK hx (by decide) (by decide), decide_eq_false (word_ne hw wThis), decide_eq_false (word_ne hw w40), e1, e2, show takeB [45, 62] (mkP post).l = false from hs]
    rfl
  | arrow w v hw hv =>
    intro toks n hm post ns hlen hs
    obtain ⟨x, y, rfl, hx, hy⟩ := map_head hm
    obtain ⟨z, y, rfl, hz, hy⟩ := map_head hy
    obtain ⟨q, y, rfl, hq, hy⟩ := map_head hy
    obtain rfl : y = [] := List.map_eq_nil_iff.1 hy
    obtain ⟨e1, e2⟩ := wdS_mk hx hw (z :: q :: post)
    obtain ⟨e3, e4⟩ := wdS_mk hq hv post
    unfold facN
    rw [List.cons_append, List.cons_append, List.cons_append, List.nil_append, takeK hx (by decide) (by decide), takeK hx (by decide) (by decide), decide_eq_false (word_ne hw wThis), decide_eq_false (word_ne hw w40), e1, e2, takeK hz (by decide) (by decide), decide_eq_true rfl]
    simp only [tail_mk]
    rw [e3, e4]
    rfl
  | par ts t _ ih =>
    intro toks n hm post ns hlen hs
    obtain ⟨x, y, rfl, hx, hy⟩ := map_head hm
    obtain ⟨u, z, rfl, hu, hz⟩ := map_split hy
    obtain ⟨q, z, rfl, hq, hz⟩ := map_head hz
    obtain rfl : z = [] := List.map_eq_nil_iff.1 hz
    simp only [List.length_cons, List.length_append, List.length_nil] at hlen
    obtain ⟨n', rfl⟩ : ∃ n', n = n' + 1 := ⟨n - 1, by omega⟩
    have := ih u n' hu (q :: post) ns (by simp only [List.length_append, List.length_cons]; omega) (Stop.cons hq (by decide) (by decide) (by decide) _) (Stop.cons hq (by decide) (by decide) (by decide) _)
    unfold facN
    rw [List.cons_append, List.append_assoc, List.cons_append, List.nil_append, takeK hx (by decide) (by decide), takeK hx (by decide) (by decide), tail_mk, this]
    have hstop : opV (mkP (q :: post)) = 0 ∧ opS (mkP (q :: post)) = mkP (q :: post) := by
      unfold opV opS tkS
      rw [takeK hq (by decide) (by decide), takeK hq (by decide) (by decide)]
      exact ⟨rfl, rfl⟩
    rw [exprL_st hstop.1 hstop.2]
    dsimp only
    rw [must_mk hq (by decide) (by decide)]
    rfl
  | fac ts t _ ih =>
    intro toks n hm post ns hlen hs
    have := ih toks n hm post ns hlen hs
    unfold termN
    rw [this]; rfl
  | and ts us a b _ _ iha ihb =>
    intro toks n hm post ns hlen hs
    obtain ⟨x, y, rfl, hx, hy⟩ := map_split hm
    obtain ⟨z, y, rfl, hz, hy⟩ := map_head hy
    have fits := fac_fit (expr_fit n)
    have hl : x.length + (y.length + post.length) + 1 ≤ n := by
      simp only [List.length_append, List.length_cons] at hlen; omega
    have e1 := iha x n hx (z :: (y ++ post)) ns (by simp only [List.length_append, List.length_cons]; omega) (Stop.cons hz (by decide) (by decide) (by decide) _)
    have e2 := ihb y n hy post (ns ++ layN ns.length a) (by simp only [List.length_append]; omega) hs
    rw [List.append_assoc, List.cons_append, e1, show (z :: (y ++ post)).length = (y ++ post).length + 1 from rfl]
    simp only [termL]
    rw [takeK hz (by decide) (by decide), decide_eq_true rfl, show (!(mkP (z :: (y ++ post))).f && true) = true from rfl, if_pos rfl, tail_mk, e2]
    dsimp only
    rw [show (ns ++ layN ns.length a).length = ns.length + a.size by rw [List.length_append, layN_len], joinN_layN]
    exact termL_more fits _ _ _ _ (by show post.length ≤ _; simp) (by show post.length ≤ _; exact Nat.le_refl _) (by show post.length ≤ _; omega)
  | term ts t _ ih =>
    intro toks n hm post ns hlen hs hs2
    have := ih toks n hm post ns hlen hs
    simp only [exprN]
    rw [this, termL_st (show takeB [38] (mkP post).l = false from hs2)]; rfl
  | or ts us a b _ _ iha ihb =>
    intro toks n hm
    obtain ⟨x, y, rfl, hx, hy⟩ := map_split hm
    obtain ⟨z, y, rfl, hz, hy⟩ := map_head hy
    exact op_run (.inl ⟨rfl, rfl⟩) hz (iha x n hx) (ihb y n hy)
  | but ts us a b _ _ iha ihb =>
    intro toks n hm
    obtain ⟨x, y, rfl, hx, hy⟩ := map_split hm
    obtain ⟨z, y, rfl, hz, hy⟩ := map_head hy
    exact op_run (.inr ⟨rfl, rfl⟩) hz (iha x n hx) (ihb y n hy)
end Go.Proofs.Ytcgbcbdgjhnlaaa
