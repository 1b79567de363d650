/- Layer 18 (strata), plain: the edges that the document finds are those that the program finds. No program here. -/
import Derived.Test.YtcgbcbdgjhnlaaaVStrX
namespace Go.Proofs.Ytcgbcbdgjhnlaaa

structure GoodR (r : RelS) : Prop where
  name : wordS r.name = true
  types : ∀ t ∈ r.types, typOK t = true
  tn : r.types.length ≤ 8
  nn : r.nodes.length ≤ 64
  d0 : ¬ deepN r.nodes = 0
  d16 : deepN r.nodes ≤ 16
structure GoodS (s : SpaceS) : Prop where
  name : wordS s.name = true
  n : s.rels.length ≤ 16
  rels : ∀ r ∈ s.rels, GoodR r
structure GoodC (c : ConfS) : Prop where
  n : c.spaces.length ≤ 16
  m : c.scopes.length ≤ 16
  sp : ∀ s ∈ c.spaces, GoodS s
  sc : ∀ s ∈ c.scopes, scOK s = true
theorem anyF_no {α : Type} {q : α → Bool} {l : List α} (h : l.any q = false) : ∀ x ∈ l, q x = false := fun x hx => by
  rw [List.any_eq_false] at h
  exact Bool.eq_false_iff.2 (h x hx)
theorem right_good {c : ConfS} (h : rightN c = true) : GoodC c := by
  unfold rightN withinN at h
  simp only [Bool.and_eq_true, Bool.not_eq_true', decide_eq_false_iff_not, List.all_eq_true] at h
  obtain ⟨⟨⟨h1, h2⟩, h3⟩, h4, h5⟩ := h
  refine ⟨by omega, by omega, fun s hs => ?_, h5⟩
  have a := h3 s hs
  have b := h4 s hs
  unfold fewS at a
  unfold spOK at b
  simp only [Bool.not_eq_true', Bool.or_eq_false_iff, decide_eq_false_iff_not] at a
  simp only [Bool.and_eq_true, List.all_eq_true] at b
  refine ⟨b.1, by omega, fun r hr => ?_⟩
  have d := anyF_no a.2 r hr
  have e := b.2 r hr
  unfold muchN at d
  unfold relOK at e
  simp only [Bool.or_eq_false_iff, decide_eq_false_iff_not] at d
  simp only [Bool.and_eq_true, Bool.not_eq_true', decide_eq_false_iff_not, List.all_eq_true] at e
  exact ⟨e.1, e.2.2, by omega, by omega, e.2.1, by omega⟩

/-- Lists of nodes that are right are trees'. -/
def TreeF (T : List NodeS → Tr) : Prop := ∀ l : List NodeS, ¬ deepN l = 0 → (T l).ok ∧ l = layN 0 (T l) ∧ deepN l = (T l).dep
theorem treeF : ∃ T : List NodeS → Tr, TreeF T := by
  have h : ∀ l : List NodeS, ∃ t : Tr, ¬ deepN l = 0 → t.ok ∧ l = layN 0 t ∧ deepN l = t.dep := fun l => by
    by_cases h : deepN l = 0
    · exact ⟨.this, fun h' => absurd h h'⟩
    · obtain ⟨t, h1⟩ := deep_lay h
      exact ⟨t, fun _ => h1⟩
  exact ⟨fun l => Classical.choose (h l), fun l => Classical.choose_spec (h l)⟩
theorem GoodR.tree {T : List NodeS → Tr} (hT : TreeF T) {r : RelS} (h : GoodR r) : (T r.nodes).ok ∧ r.nodes = layN 0 (T r.nodes) ∧ (T r.nodes).size ≤ 64 ∧ (T r.nodes).dep ≤ 16 := by
  obtain ⟨h1, h2, h3⟩ := hT r.nodes h.d0
  have h4 := h.nn
  have h5 := h.d16
  rw [h2, layN_len] at h4
  exact ⟨h1, h2, h4, by omega⟩

def toD (c : ConfS) (e : EdgeS) : DE := ⟨ixS c e.fs, ixS c e.ts, e.ab⟩
/-- What the program answers, and what the document answers. -/
def SimE (c : ConfS) (o : Option (List EdgeS)) (p : List DE × Bool) : Prop := (∃ es, o = some es ∧ p.2 = true ∧ es.map (toD c) = p.1) ∨ (o = none ∧ p.2 = false)
def appE (o q : Option (List EdgeS)) : Option (List EdgeS) := match o, q with | some a, some b => some (a ++ b) | _, _ => none
def appD (p q : List DE × Bool) : List DE × Bool := (p.1 ++ q.1, p.2 && q.2)
theorem SimE.app {c : ConfS} {o q : Option (List EdgeS)} {p r : List DE × Bool} (h1 : SimE c o p) (h2 : SimE c q r) : SimE c (appE o q) (appD p r) := by
  rcases h1 with ⟨a, rfl, h3, h4⟩ | ⟨rfl, h3⟩
  · rcases h2 with ⟨b, rfl, h5, h6⟩ | ⟨rfl, h5⟩
    · exact .inl ⟨a ++ b, rfl, by unfold appD; rw [h3, h5]; rfl, by unfold appD; rw [List.map_append, h4, h6]⟩
    · exact .inr ⟨rfl, by unfold appD; rw [h5, Bool.and_false]⟩
  · exact .inr ⟨by cases q <;> rfl, by unfold appD; rw [h3, Bool.false_and]⟩
theorem appE_nil (o : Option (List EdgeS)) : appE o (some []) = o := by
  cases o with
  | none => rfl
  | some a => show some (a ++ []) = _; rw [List.append_nil]
theorem appE_assoc (o p q : Option (List EdgeS)) : appE (appE o p) q = appE o (appE p q) := by
  cases o <;> cases p <;> cases q <;> simp [appE]
theorem nil_appE (o : Option (List EdgeS)) : appE (some []) o = o := by cases o <;> rfl
theorem findUp_is (c : ConfS) (l : List TypS) : ∀ i : Nat, i ≤ l.length → (∃ ss, findUp c l i = some ss ∧ ((l.take i).map fun t => findD (allD c) t.space t.rel) = ss.map fun s => (ixS c s : Int)) ∨ (findUp c l i = none ∧ ∃ t ∈ l.take i, findD (allD c) t.space t.rel = -1)
  | 0, _ => .inl ⟨[], rfl, rfl⟩
  | i + 1, hi => by
    have ht : l[i]? = some l[i] := List.getElem?_eq_getElem hi
    rw [List.take_add_one, ht, Option.toList_some]
    simp only [findUp, ht]
    rcases findUp_is c l i (by omega) with ⟨ss, h1, h2⟩ | ⟨h1, t, h2, h3⟩
    · rw [h1]
      dsimp only
      cases hf : findS c l[i] with
      | none => exact .inr ⟨rfl, l[i], List.mem_append_right _ (List.mem_singleton.2 rfl), findS_no hf⟩
      | some s => exact .inl ⟨_, rfl, by rw [List.map_append, List.map_append, h2, List.map_singleton, List.map_singleton, findS_ok hf]⟩
    · rw [h1]; exact .inr ⟨rfl, t, List.mem_append_left _ h2, h3⟩
theorem findAll_is (c : ConfS) (l : List TypS) : (∃ ss, findAll c l = some ss ∧ (l.map fun t => findD (allD c) t.space t.rel) = ss.map fun s => (ixS c s : Int)) ∨ (findAll c l = none ∧ ∃ t ∈ l, findD (allD c) t.space t.rel = -1) := by
  have h := findUp_is c l l.length (Nat.le_refl _)
  rw [List.take_length] at h
  exact h
theorem leaf_sim (c : ConfS) (s : Spot) (ab : Bool) (tl : List TypS) {es : List DE} (he : es = tl.map fun t => ⟨ixS c s, findD (allD c) t.space t.rel, ab⟩) :
    SimE c ((findAll c tl).map fun ss => ss.map fun t => ⟨s, t, ab⟩) (es, okD es) := by
  rcases findAll_is c tl with ⟨ss, h1, h2⟩ | ⟨h1, t, h2, h3⟩
  · have he2 : es = ss.map fun t => ⟨ixS c s, ixS c t, ab⟩ := by
      have e1 : es = (tl.map fun t => findD (allD c) t.space t.rel).map fun z => ⟨ixS c s, z, ab⟩ := by rw [he, List.map_map]; rfl
      rw [e1, h2, List.map_map]; rfl
    refine .inl ⟨_, by rw [h1]; rfl, ?_, by rw [List.map_map, he2]; rfl⟩
    show okD es = true
    rw [he2]
    unfold okD
    rw [List.all_eq_true]
    intro e hm
    obtain ⟨t, _, rfl⟩ := List.mem_map.1 hm
    rw [decide_eq_true_eq]
    exact Int.natCast_nonneg _
  · refine .inr ⟨by rw [h1]; rfl, ?_⟩
    show okD es = false
    rw [he]
    unfold okD
    refine all_no (x := ⟨ixS c s, findD (allD c) t.space t.rel, ab⟩) (List.mem_map.2 ⟨t, h2, rfl⟩) ?_
    show decide (0 ≤ findD (allD c) t.space t.rel) = false
    rw [h3]; rfl
def nodeE (c : ConfS) (s : Spot) (r : RelS) (n : NodeS) (ab : Bool) : Option (List EdgeS) := (namedS c s r n).map fun l => l.map fun t => ⟨s, t, ab⟩
theorem edgesUp_step {c : ConfS} {s : Spot} {r : RelS} {i : Nat} {n : NodeS} (h : r.nodes[i]? = some n) {ab : Bool} (hab : (absS r.nodes).getD i false = ab) : edgesUp c s r (i + 1) = appE (edgesUp c s r i) (nodeE c s r n ab) := by
  simp only [edgesUp, h, hab, nodeE]
  cases edgesUp c s r i with
  | none => rfl
  | some out => dsimp only; cases namedS c s r n <;> rfl
theorem types_ix {c : ConfS} {s : Spot} {r : RelS} (h : relAt c s = some r) : typesAt (allD c) (ixS c s) = r.types := by unfold typesAt; rw [rel_ix h]; rfl
theorem sp_ix {c : ConfS} {s : Spot} {r : RelS} (h : relAt c s = some r) : spAt (allD c) (ixS c s) = nameAt c s.1 := by unfold spAt; rw [rel_ix h]; rfl
theorem this_sim {c : ConfS} {s : Spot} {r : RelS} (h : relAt c s = some r) (m : Nat) (ab : Bool) : SimE c (nodeE c s r (rootT m .this) ab) (walkT (allD c) (ixS c s) .this ab) := by
  have e1 : namedS c s r (rootT m .this) = findAll c (setsS r.types) := rfl
  have e2 : walkT (allD c) (ixS c s) .this ab = (leafD (allD c) (ixS c s) ab [] r.types, okD (leafD (allD c) (ixS c s) ab [] r.types)) := by
    show leafR (allD c) (ixS c s) ab [] (typesAt (allD c) (ixS c s)) = _
    rw [types_ix h]
    unfold leafR
    rw [decide_eq_true (p := ([] : List UInt8) = []) rfl, Bool.true_or, Bool.and_true]
  rw [e2]
  unfold nodeE
  rw [e1]
  exact leaf_sim c s ab (setsS r.types) rfl
theorem rel_sim {c : ConfS} {s : Spot} {r : RelS} (h : relAt c s = some r) (m : Nat) (ab : Bool) (w : List UInt8) : SimE c (nodeE c s r (rootT m (.rel w)) ab) (walkT (allD c) (ixS c s) (.rel w) ab) := by
  have e1 : namedS c s r (rootT m (.rel w)) = findAll c [⟨nameAt c s.1, w⟩] := rfl
  have e2 : walkT (allD c) (ixS c s) (.rel w) ab = ([⟨ixS c s, findD (allD c) (nameAt c s.1) w, ab⟩], okD [⟨ixS c s, findD (allD c) (nameAt c s.1) w, ab⟩]) := by
    show (([⟨ixS c s, findD (allD c) (spAt (allD c) (ixS c s)) w, ab⟩], decide (0 ≤ findD (allD c) (spAt (allD c) (ixS c s)) w)) : List DE × Bool) = _
    rw [sp_ix h]
    unfold okD
    rw [List.all_cons, List.all_nil, Bool.and_true]
  rw [e2]
  unfold nodeE
  rw [e1]
  exact leaf_sim c s ab [⟨nameAt c s.1, w⟩] rfl
theorem leafD_arrow (l : List NameD) (f : Nat) (ab : Bool) {v : List UInt8} (hv : v ≠ []) (q : RelS) : leafD l f ab v q.types = (arrowT q v).map fun t => ⟨f, findD l t.space t.rel, ab⟩ := by
  unfold leafD arrowT
  rw [List.map_map]
  refine List.map_congr_left fun t _ => ?_
  show (⟨f, findD l t.space (keyT v t), ab⟩ : DE) = ⟨f, findD l t.space v, ab⟩
  unfold keyT
  rw [if_neg hv]
theorem arrow_sim {c : ConfS} {s : Spot} {r : RelS} (h : relAt c s = some r) (m : Nat) (ab : Bool) (w : List UInt8) {v : List UInt8} (hv : v ≠ []) : SimE c (nodeE c s r (rootT m (.arrow w v)) ab) (walkT (allD c) (ixS c s) (.arrow w v) ab) := by
  have e1 : namedT c s r (rootT m (.arrow w v)) = match findS c ⟨nameAt c s.1, w⟩ with
    | none => none
    | some p => match relAt c p with | none => none | some q => if arrowT q v = [] then none else some (arrowT q v) := rfl
  have e2 : walkT (allD c) (ixS c s) (.arrow w v) ab = if findD (allD c) (nameAt c s.1) w < 0 then ([], false) else leafR (allD c) (ixS c s) ab v (typesAt (allD c) (findD (allD c) (nameAt c s.1) w).toNat) := by
    show (if findD (allD c) (spAt (allD c) (ixS c s)) w < 0 then (([], false) : List DE × Bool) else leafR (allD c) (ixS c s) ab v (typesAt (allD c) (findD (allD c) (spAt (allD c) (ixS c s)) w).toNat)) = _
    rw [sp_ix h]
  rw [e2]
  unfold nodeE namedS
  rw [e1]
  cases hf : findS c ⟨nameAt c s.1, w⟩ with
  | none =>
    have := findS_no hf
    dsimp only at this ⊢
    rw [this, if_pos (by decide)]
    exact .inr ⟨rfl, rfl⟩
  | some p =>
    have := findS_ok hf
    obtain ⟨q, hq⟩ := findS_rel hf
    dsimp only at this ⊢
    rw [this, hq, if_neg (by omega), Int.toNat_natCast, types_ix hq]
    dsimp only
    unfold leafR
    rw [leafD_arrow _ _ _ hv]
    by_cases hn : arrowT q v = []
    · rw [if_pos hn, hn]
      refine .inr ⟨rfl, ?_⟩
      show (okD [] && (decide (v = []) || !decide (([] : List DE) = []))) = false
      rw [decide_eq_false hv]; rfl
    · rw [if_neg hn]
      have hne : ¬ (arrowT q v).map (fun t => (⟨ixS c s, findD (allD c) t.space t.rel, ab⟩ : DE)) = [] := fun e => hn (List.map_eq_nil_iff.1 e)
      rw [decide_eq_false (p := (arrowT q v).map (fun t => (⟨ixS c s, findD (allD c) t.space t.rel, ab⟩ : DE)) = []) hne]
      rw [Bool.not_false, Bool.or_true, Bool.and_true]
      exact leaf_sim c s ab (arrowT q v) rfl
theorem word_nil {w : List UInt8} (h : wordS w = true) : w ≠ [] := by rintro rfl; revert h; decide
theorem walk_sim {c : ConfS} {s : Spot} {r : RelS} (h : relAt c s = some r) : ∀ (t : Tr) (m : Nat) (ab : Bool), t.ok → AtT r.nodes m t → (∀ j, j < t.size → (absS r.nodes).getD (m + j) false = (flagsT t ab).getD j false) →
    ∃ o, edgesUp c s r (m + t.size) = appE (edgesUp c s r m) o ∧ SimE c o (walkT (allD c) (ixS c s) t ab)
  | .this, m, ab, _, ha, hf => ⟨_, edgesUp_step (n := rootT m .this) ha.root (hf 0 Nat.zero_lt_one), this_sim h m ab⟩
  | .rel w, m, ab, _, ha, hf => ⟨_, edgesUp_step (n := rootT m (.rel w)) ha.root (hf 0 Nat.zero_lt_one), rel_sim h m ab w⟩
  | .arrow w v, m, ab, hok, ha, hf => ⟨_, edgesUp_step (n := rootT m (.arrow w v)) ha.root (hf 0 Nat.zero_lt_one), arrow_sim h m ab w (word_nil hok.2)⟩
  | .op k a b, m, ab, hok, ha, hf => by
    obtain ⟨hk, hoa, hob⟩ := hok
    have hsz : (Tr.op k a b).size = a.size + b.size + 1 := rfl
    have pa := a.size_pos
    have pb := b.size_pos
    have hfl : flagsT (.op k a b) ab = flagsT a ab ++ (flagsT b (ab || decide (k = 6)) ++ [ab]) := by simp only [flagsT, List.append_assoc]
    rw [hfl] at hf
    obtain ⟨o1, h1, s1⟩ := walk_sim h a m ab hoa ha.left fun j hj => by
      rw [hf j (by omega), List.getD_eq_getElem?_getD, List.getD_eq_getElem?_getD, List.getElem?_append_left (by rw [flagsT_len]; exact hj)]
    obtain ⟨o2, h2, s2⟩ := walk_sim h b (m + a.size) (ab || decide (k = 6)) hob ha.right fun j hj => by
      rw [Nat.add_assoc, hf (a.size + j) (by omega), List.getD_eq_getElem?_getD, List.getD_eq_getElem?_getD, List.getElem?_append_right (by rw [flagsT_len]; omega), flagsT_len, Nat.add_sub_cancel_left, List.getElem?_append_left (by rw [flagsT_len]; exact hj)]
    have hroot := ha.root
    rw [hsz, show m + (a.size + b.size + 1) - 1 = m + a.size + b.size by omega] at hroot
    have e3 : nodeE c s r (rootT m (.op k a b)) ((absS r.nodes).getD (m + a.size + b.size) false) = some [] := by
      have : namedT c s r (rootT m (.op k a b)) = some [] := by
        rcases hk with rfl | rfl | rfl <;> rfl
      unfold nodeE namedS
      rw [this]; rfl
    refine ⟨appE o1 o2, ?_, s1.app s2⟩
    rw [hsz, show m + (a.size + b.size + 1) = m + a.size + b.size + 1 by omega, edgesUp_step hroot rfl, e3, appE_nil, h2, h1, appE_assoc]
def tyOK (l : List NameD) (r : RelS) : Bool := r.types.all fun t => decide (t.space = []) || decide (0 ≤ findD l t.space t.rel)
theorem tyOK_is (c : ConfS) (r : RelS) : tyOK (allD c) r = (findAll c (setsS r.types)).isSome := by
  rcases findAll_is c (setsS r.types) with ⟨ss, h1, h2⟩ | ⟨h1, t, h2, h3⟩
  · rw [h1]
    unfold tyOK
    show _ = true
    rw [List.all_eq_true]
    intro t ht
    by_cases hs : t.space = []
    · rw [decide_eq_true hs, Bool.true_or]
    · have hm : findD (allD c) t.space t.rel ∈ (setsS r.types).map fun t => findD (allD c) t.space t.rel := List.mem_map.2 ⟨t, by unfold setsS; rw [List.mem_filter]; exact ⟨ht, by rw [decide_eq_false hs]; rfl⟩, rfl⟩
      rw [h2] at hm
      obtain ⟨q, _, hq⟩ := List.mem_map.1 hm
      rw [← hq, decide_eq_true (p := (0 : Int) ≤ (ixS c q : Nat)) (Int.natCast_nonneg _), Bool.or_true]
  · rw [h1]
    unfold tyOK
    unfold setsS at h2
    rw [List.mem_filter] at h2
    refine all_no h2.1 ?_
    have hs : ¬ t.space = [] := by have := h2.2; simpa using this
    rw [decide_eq_false hs, h3]; rfl
theorem one_sim {c : ConfS} {s : Spot} {r : RelS} (h : relAt c s = some r) {t : Tr} (hok : t.ok) (hl : r.nodes = layN 0 t) : SimE c (edgesS c s) ((walkT (allD c) (ixS c s) t false).1, tyOK (allD c) r && (walkT (allD c) (ixS c s) t false).2) := by
  have hlen : r.nodes.length = t.size := by rw [hl, layN_len]
  obtain ⟨o, h1, h2⟩ := walk_sim h t 0 false hok ⟨[], [], by rw [List.nil_append, List.append_nil]; exact hl, rfl⟩ fun j _ => by rw [abs_is hok hl, Nat.zero_add]
  have h1 : edgesUp c s r (0 + t.size) = appE (some []) o := h1
  rw [Nat.zero_add, ← hlen, nil_appE] at h1
  rw [tyOK_is]
  unfold edgesS
  rw [h]
  dsimp only
  cases findAll c (setsS r.types) with
  | none => exact .inr ⟨rfl, rfl⟩
  | some ss =>
    show SimE c (edgesUp c s r r.nodes.length) _
    rw [h1]
    exact h2

def upD (T : List NodeS → Tr) (l : List NameD) : Nat → List DE × Bool
  | 0 => ([], true)
  | i + 1 => match l[i]? with
    | some x => appD (upD T l i) ((walkT l i (T x.2.nodes) false).1, tyOK l x.2 && (walkT l i (T x.2.nodes) false).2)
    | none => upD T l i
def scOKD (l : List NameD) (s : ScopeS) : Bool := decide (0 ≤ findD l s.object.space s.rel)
def edgesD (T : List NodeS → Tr) (c : ConfS) : List DE × Bool := ((upD T (allD c) (allD c).length).1, (upD T (allD c) (allD c).length).2 && c.scopes.all (scOKD (allD c)))
theorem rels_sim {T : List NodeS → Tr} (hT : TreeF T) {c : ConfS} (hg : GoodC c) {i : Nat} {sp : SpaceS} (hi : c.spaces[i]? = some sp) {o : Option (List EdgeS)} (ho : SimE c o (upD T (allD c) (allP (c.spaces.take i)).length)) :
    ∀ k : Nat, k ≤ sp.rels.length → SimE c (appE o (relsUp c i k)) (upD T (allD c) ((allP (c.spaces.take i)).length + k))
  | 0, _ => by show SimE c (appE o (some [])) _; rw [appE_nil]; exact ho
  | k + 1, hk => by
    have hr : relAt c (i, k) = some sp.rels[k] := by unfold relAt; rw [hi]; exact List.getElem?_eq_getElem hk
    have hgr := (hg.sp sp (List.mem_of_getElem? hi)).rels _ (List.getElem_mem hk)
    obtain ⟨t1, t2, _⟩ := hgr.tree hT
    have h1 := one_sim hr t1 t2
    have hx := rel_ix hr
    have e1 : ixS c (i, k) = (allP (c.spaces.take i)).length + k := rfl
    rw [e1] at h1 hx
    have e2 : relsUp c i (k + 1) = appE (relsUp c i k) (edgesS c (i, k)) := by
      simp only [relsUp]
      cases relsUp c i k <;> cases edgesS c (i, k) <;> rfl
    have e3 : upD T (allD c) ((allP (c.spaces.take i)).length + (k + 1)) = appD (upD T (allD c) ((allP (c.spaces.take i)).length + k)) ((walkT (allD c) ((allP (c.spaces.take i)).length + k) (T sp.rels[k].nodes) false).1, tyOK (allD c) sp.rels[k] && (walkT (allD c) ((allP (c.spaces.take i)).length + k) (T sp.rels[k].nodes) false).2) := by
      show (match (allD c)[(allP (c.spaces.take i)).length + k]? with
        | some x => appD (upD T (allD c) ((allP (c.spaces.take i)).length + k)) ((walkT (allD c) ((allP (c.spaces.take i)).length + k) (T x.2.nodes) false).1, tyOK (allD c) x.2 && (walkT (allD c) ((allP (c.spaces.take i)).length + k) (T x.2.nodes) false).2)
        | none => upD T (allD c) ((allP (c.spaces.take i)).length + k)) = _
      rw [hx]
    rw [e2, ← appE_assoc, e3]
    exact (rels_sim hT hg hi ho k (by omega)).app h1
theorem spaces_sim {T : List NodeS → Tr} (hT : TreeF T) {c : ConfS} (hg : GoodC c) : ∀ i : Nat, i ≤ c.spaces.length → SimE c (spacesUp c i) (upD T (allD c) (allP (c.spaces.take i)).length)
  | 0, _ => .inl ⟨[], rfl, rfl, rfl⟩
  | i + 1, hi => by
    have hx : c.spaces[i]? = some c.spaces[i] := List.getElem?_eq_getElem hi
    have h := rels_sim hT hg hx (spaces_sim hT hg i (by omega)) c.spaces[i].rels.length (Nat.le_refl _)
    rw [allP_snoc hx, List.length_append, List.length_map]
    have e : spacesUp c (i + 1) = appE (spacesUp c i) (relsUp c i c.spaces[i].rels.length) := by
      simp only [spacesUp, hx]
      cases spacesUp c i <;> dsimp only <;> cases relsUp c i c.spaces[i].rels.length <;> rfl
    rw [e]
    exact h
theorem all_sim {T : List NodeS → Tr} (hT : TreeF T) {c : ConfS} (hg : GoodC c) : SimE c (allE c) (edgesD T c) := by
  have h := spaces_sim hT hg c.spaces.length (Nat.le_refl _)
  rw [List.take_length] at h
  have h : SimE c (spacesUp c c.spaces.length) (upD T (allD c) (allD c).length) := h
  have hsc : c.scopes.all (fun s => (findS c (scopeKey s)).isSome) = c.scopes.all (scOKD (allD c)) := by
    congr 1
    funext s
    unfold scOKD
    rw [find_is]
    show (findS c ⟨s.object.space, s.rel⟩).isSome = _
    cases findS c ⟨s.object.space, s.rel⟩ with
    | none => rfl
    | some q => dsimp only; rw [decide_eq_true (p := (0 : Int) ≤ (ixS c q : Nat)) (Int.natCast_nonneg _)]; rfl
  unfold allE edgesD
  rw [hsc]
  rcases h with ⟨es, h1, h2, h3⟩ | ⟨h1, h2⟩
  · rw [h1, h2, Bool.true_and]
    dsimp only
    cases hb : c.scopes.all (scOKD (allD c)) with
    | true => exact .inl ⟨es, rfl, rfl, h3⟩
    | false => exact .inr ⟨rfl, rfl⟩
  · rw [h1, h2, Bool.false_and]
    exact .inr ⟨rfl, rfl⟩
end Go.Proofs.Ytcgbcbdgjhnlaaa

