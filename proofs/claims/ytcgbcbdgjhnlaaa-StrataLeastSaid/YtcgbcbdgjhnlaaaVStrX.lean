/- Layer 18 (strata), plain: relations by their place in order; what the document finds is what the program finds. No program here. -/
import Derived.Test.YtcgbcbdgjhnlaaaVStrV
import Derived.Test.YtcgbcbdgjhnlaaaVStrI
namespace Go.Proofs.Ytcgbcbdgjhnlaaa

def ixP (ss : List SpaceS) (s : Spot) : Nat := (allP (ss.take s.1)).length + s.2
def ixS (c : ConfS) (s : Spot) : Nat := ixP c.spaces s
def keyD (x : NameD) : TypS := ⟨x.1, x.2.name⟩
theorem isN_key (sp rl : List UInt8) (x : NameD) : isN sp rl x = decide (keyD x = ⟨sp, rl⟩) := by
  unfold isN keyD
  rw [Bool.eq_iff_iff]
  simp only [Bool.and_eq_true, decide_eq_true_eq, TypS.mk.injEq]
theorem allP_cons (s : SpaceS) (ss : List SpaceS) : allP (s :: ss) = s.rels.map (fun r => (s.name, r)) ++ allP ss := by unfold allP; rw [List.flatMap_cons]
theorem allP_app (a b : List SpaceS) : allP (a ++ b) = allP a ++ allP b := by unfold allP; rw [List.flatMap_append]
theorem relKeys_fst (nm : List UInt8) (i : Nat) : ∀ (k : Nat) (rs : List RelS), (relKeys nm i k rs).map (·.1) = rs.map fun r => ⟨nm, r.name⟩
  | _, [] => rfl
  | k, r :: rs => by
    show (⟨nm, r.name⟩ : TypS) :: (relKeys nm i (k + 1) rs).map (·.1) = _
    rw [relKeys_fst nm i (k + 1) rs]; rfl
theorem spaceKeys_fst : ∀ (i : Nat) (ss : List SpaceS), (spaceKeys i ss).map (·.1) = (allP ss).map keyD
  | _, [] => rfl
  | i, s :: ss => by
    show (relKeys s.name i 0 s.rels ++ spaceKeys (i + 1) ss).map (·.1) = _
    rw [List.map_append, relKeys_fst, spaceKeys_fst (i + 1) ss, allP_cons, List.map_append, List.map_map]; rfl
theorem relKeys_snd (nm : List UInt8) (i : Nat) : ∀ (k : Nat) (rs : List RelS) (j : Nat) (p : TypS × Spot), (relKeys nm i k rs)[j]? = some p → p.2 = (i, k + j)
  | _, [], _, _, h => by cases h
  | k, r :: rs, 0, p, h => by obtain rfl := Option.some.inj h; rfl
  | k, r :: rs, j + 1, p, h => by
    have := relKeys_snd nm i (k + 1) rs j p h
    rw [this, show k + 1 + j = k + (j + 1) by omega]
theorem spaceKeys_snd : ∀ (ss pre : List SpaceS) (k : Nat) (p : TypS × Spot), (spaceKeys pre.length ss)[k]? = some p → ixP (pre ++ ss) p.2 = (allP pre).length + k
  | [], _, _, _, h => by cases h
  | x :: ss, pre, k, p, h => by
    have h : (relKeys x.name pre.length 0 x.rels ++ spaceKeys (pre.length + 1) ss)[k]? = some p := h
    rcases Nat.lt_or_ge k x.rels.length with hk | hk
    · rw [List.getElem?_append_left (by rw [relKeys_len]; exact hk)] at h
      have e := relKeys_snd _ _ _ _ _ _ h
      unfold ixP
      rw [e]
      show (allP ((pre ++ x :: ss).take pre.length)).length + (0 + k) = _
      rw [List.take_left, Nat.zero_add]
    · rw [List.getElem?_append_right (by rw [relKeys_len]; exact hk), relKeys_len] at h
      have e := spaceKeys_snd ss (pre ++ [x]) (k - x.rels.length) p (by rw [List.length_append, List.length_singleton]; exact h)
      rw [List.append_assoc] at e
      rw [show pre ++ x :: ss = pre ++ ([x] ++ ss) from rfl, e, allP_app, List.length_append]
      have : (allP [x]).length = x.rels.length := by rw [allP_cons, List.length_append, List.length_map]; rfl
      omega
theorem keys_ix {c : ConfS} {k : Nat} {p : TypS × Spot} (h : (keysS c)[k]? = some p) : ixS c p.2 = k := by
  have := spaceKeys_snd c.spaces [] k p h
  rw [List.nil_append] at this
  show ixP c.spaces p.2 = k
  rw [this]; exact Nat.zero_add k
theorem keys_len (c : ConfS) : (keysS c).length = (allD c).length := by
  have := congrArg List.length (spaceKeys_fst 0 c.spaces)
  rwa [List.length_map, List.length_map] at this
theorem find_is (c : ConfS) (sp rl : List UInt8) : findD (allD c) sp rl = match findS c ⟨sp, rl⟩ with | some s => (ixS c s : Int) | none => -1 := by
  unfold findD
  have e : (allD c).findIdx? (isN sp rl) = (keysS c).findIdx? (fun p => decide (p.1 = ⟨sp, rl⟩)) := by
    have h1 : isN sp rl = (fun t => decide (t = (⟨sp, rl⟩ : TypS))) ∘ keyD := funext fun x => isN_key sp rl x
    rw [h1, ← List.findIdx?_map]
    show ((allP c.spaces).map keyD).findIdx? _ = _
    rw [← spaceKeys_fst 0 c.spaces, List.findIdx?_map]; rfl
  rw [e]
  unfold findS findK
  cases hf : (keysS c).findIdx? (fun p => decide (p.1 = (⟨sp, rl⟩ : TypS))) with
  | none =>
    have hn : (keysS c).find? (fun p => decide (p.1 = (⟨sp, rl⟩ : TypS))) = none := by
      rw [List.findIdx?_eq_none_iff] at hf
      rw [List.find?_eq_none]
      intro x hx; rw [hf x hx]; exact Bool.false_ne_true
    rw [hn]; rfl
  | some k =>
    rw [List.findIdx?_eq_some_iff_getElem] at hf
    obtain ⟨h1, h2, h3⟩ := hf
    have hn : (keysS c).find? (fun p => decide (p.1 = (⟨sp, rl⟩ : TypS))) = some (keysS c)[k] := by
      rw [List.find?_eq_some_iff_getElem]
      exact ⟨h2, k, h1, rfl, fun j hj => by have := h3 j hj; simpa using this⟩
    rw [hn]
    show (k : Int) = (ixS c (keysS c)[k].2 : Nat)
    rw [keys_ix (List.getElem?_eq_getElem h1)]
theorem split_at {α : Type} {l : List α} {i : Nat} {x : α} (h : l[i]? = some x) : l = l.take i ++ x :: l.drop (i + 1) := by
  obtain ⟨h1, h2⟩ := List.getElem?_eq_some_iff.1 h
  rw [← h2, ← List.drop_eq_getElem_cons h1, List.take_append_drop]
theorem relAt_get {c : ConfS} {s : Spot} {r : RelS} (h : relAt c s = some r) : ∃ sp, c.spaces[s.1]? = some sp ∧ sp.rels[s.2]? = some r ∧ nameAt c s.1 = sp.name := by
  unfold relAt at h
  obtain ⟨sp, h1, h2⟩ := Option.bind_eq_some_iff.1 h
  exact ⟨sp, h1, h2, by unfold nameAt; rw [h1]; rfl⟩
theorem rel_ix {c : ConfS} {s : Spot} {r : RelS} (h : relAt c s = some r) : (allD c)[ixS c s]? = some (nameAt c s.1, r) := by
  obtain ⟨sp, h1, h2, h3⟩ := relAt_get h
  have hs := split_at h1
  have hl := (List.getElem?_eq_some_iff.1 h2).1
  have e : allD c = allP (c.spaces.take s.1) ++ (sp.rels.map (fun r => (sp.name, r)) ++ allP (c.spaces.drop (s.1 + 1))) := by
    show allP c.spaces = _
    conv => lhs; rw [hs]
    rw [allP_app, allP_cons]
  rw [e, h3]
  show (_ ++ _)[(allP (c.spaces.take s.1)).length + s.2]? = _
  rw [List.getElem?_append_right (by omega), Nat.add_sub_cancel_left, List.getElem?_append_left (by rw [List.length_map]; exact hl), List.getElem?_map, h2]; rfl
theorem ix_lt {c : ConfS} {s : Spot} {r : RelS} (h : relAt c s = some r) : ixS c s < (allD c).length := (List.getElem?_eq_some_iff.1 (rel_ix h)).1
theorem findS_ok {c : ConfS} {t : TypS} {s : Spot} (h : findS c t = some s) : findD (allD c) t.space t.rel = ixS c s := by
  rw [find_is]
  show (match findS c t with | some s => (ixS c s : Int) | none => -1) = _
  rw [h]
theorem findS_no {c : ConfS} {t : TypS} (h : findS c t = none) : findD (allD c) t.space t.rel = -1 := by
  rw [find_is]
  show (match findS c t with | some s => (ixS c s : Int) | none => -1) = _
  rw [h]
def flagsT : Tr → Bool → List Bool
  | .op k a b, ab => flagsT a ab ++ flagsT b (ab || decide (k = 6)) ++ [ab]
  | _, ab => [ab]
theorem flagsT_len : ∀ (t : Tr) (ab : Bool), (flagsT t ab).length = t.size
  | .this, _ => rfl
  | .rel _, _ => rfl
  | .arrow _ _, _ => rfl
  | .op k a b, ab => by
    simp only [flagsT, List.length_append, flagsT_len a, flagsT_len b, List.length_singleton, Tr.size]
theorem cut_one {α : Type} {l : List α} {m : Nat} {x : α} (h : l[m]? = some x) : l.take m ++ [x] ++ l.drop (m + 1) = l := by
  rw [List.append_assoc]; exact (split_at h).symm
theorem absGo_at {l : List NodeS} {i : Nat} {n : NodeS} (h : l[i]? = some n) (out : List Bool) : absGo l (i + 1) out = absGo l i (absStep n i out) := by
  simp only [absGo, h]
theorem abs_seg (l : List NodeS) : ∀ (t : Tr) (m : Nat) (ab : Bool) (out : List Bool), t.ok → AtT l m t → out[m + t.size - 1]? = some ab →
    absGo l (m + t.size) out = absGo l m (out.take m ++ flagsT t ab ++ out.drop (m + t.size))
  | .this, m, ab, out, _, ha, ho => by
    have ho : out[m]? = some ab := ho
    have hr : l[m]? = some (rootT m .this) := ha.root
    rw [show m + Tr.this.size = m + 1 from rfl, absGo_at hr]
    show absGo l m out = absGo l m (out.take m ++ [ab] ++ out.drop (m + 1))
    rw [cut_one ho]
  | .rel w, m, ab, out, _, ha, ho => by
    have ho : out[m]? = some ab := ho
    have hr : l[m]? = some (rootT m (.rel w)) := ha.root
    rw [show m + (Tr.rel w).size = m + 1 from rfl, absGo_at hr]
    show absGo l m out = absGo l m (out.take m ++ [ab] ++ out.drop (m + 1))
    rw [cut_one ho]
  | .arrow w v, m, ab, out, _, ha, ho => by
    have ho : out[m]? = some ab := ho
    have hr : l[m]? = some (rootT m (.arrow w v)) := ha.root
    rw [show m + (Tr.arrow w v).size = m + 1 from rfl, absGo_at hr]
    show absGo l m out = absGo l m (out.take m ++ [ab] ++ out.drop (m + 1))
    rw [cut_one ho]
  | .op k a b, m, ab, out, hok, ha, ho => by
    obtain ⟨hk, hoa, hob⟩ := hok
    have pa := a.size_pos
    have pb := b.size_pos
    have hsz : (Tr.op k a b).size = a.size + b.size + 1 := rfl
    have hroot := ha.root
    rw [hsz] at ho hroot ⊢
    rw [show m + (a.size + b.size + 1) - 1 = m + a.size + b.size by omega] at ho hroot
    have hlen : m + a.size + b.size < out.length := (List.getElem?_eq_some_iff.1 ho).1
    rw [show m + (a.size + b.size + 1) = m + a.size + b.size + 1 by omega, absGo_at hroot]
    obtain ⟨ab2, hab2⟩ : ∃ y, (ab || decide (k = 6)) = y := ⟨_, rfl⟩
    have hg : out.getD (m + a.size + b.size) false = ab := by rw [List.getD_eq_getElem?_getD, ho]; rfl
    have hst : absStep (rootT m (.op k a b)) (m + a.size + b.size) out = (out.set (m + a.size - 1) ab).set (m + a.size + b.size - 1) ab2 := by
      unfold absStep
      have hk4 : (4 : Int) ≤ (rootT m (.op k a b)).kind := by show (4 : Int) ≤ (k : Nat); omega
      rw [if_pos hk4, hg]
      have e1 : (rootT m (.op k a b)).a.toNat = m + a.size - 1 := by show (((m + a.size : Nat) : Int) - 1).toNat = _; omega
      have e2 : (rootT m (.op k a b)).b.toNat = m + a.size + b.size - 1 := by show (((m + a.size + b.size : Nat) : Int) - 1).toNat = _; omega
      have e3 : (out.set (m + a.size - 1) ab).getD (m + a.size + b.size) false = ab := by
        rw [List.getD_eq_getElem?_getD, List.getElem?_set, if_neg (by omega), ho]; rfl
      have e4 : decide ((rootT m (.op k a b)).kind = 6) = decide (k = 6) := by
        rw [Bool.eq_iff_iff, decide_eq_true_eq, decide_eq_true_eq]
        show ((k : Nat) : Int) = 6 ↔ k = 6
        omega
      rw [e1, e2, e3, e4, hab2]
    rw [hst]
    obtain ⟨o1, ho1⟩ : ∃ o, (out.set (m + a.size - 1) ab).set (m + a.size + b.size - 1) ab2 = o := ⟨_, rfl⟩
    have g1 : o1[m + a.size + b.size - 1]? = some ab2 := by
      rw [← ho1, List.getElem?_set, if_pos rfl, if_pos (by rw [List.length_set]; omega)]
    have g2 : o1[m + a.size - 1]? = some ab := by
      rw [← ho1, List.getElem?_set, if_neg (by omega), List.getElem?_set, if_pos rfl, if_pos (by omega)]
    have g3 : o1.drop (m + a.size + b.size) = ab :: out.drop (m + a.size + b.size + 1) := by
      rw [← ho1, List.drop_set_of_lt (by omega), List.drop_set_of_lt (by omega)]
      obtain ⟨h1, h2⟩ := List.getElem?_eq_some_iff.1 ho
      rw [List.drop_eq_getElem_cons h1, h2]
    have g4 : o1.take m = out.take m := by
      rw [← ho1, List.take_set_of_le (by omega), List.take_set_of_le (by omega)]
    have hl1 : o1.length = out.length := by rw [← ho1, List.length_set, List.length_set]
    rw [ho1]
    have i1 := abs_seg l b (m + a.size) ab2 o1 hob ha.right g1
    rw [i1]
    have htk : (o1.take (m + a.size)).length = m + a.size := by rw [List.length_take]; omega
    obtain ⟨o2, ho2⟩ : ∃ o, o1.take (m + a.size) ++ flagsT b ab2 ++ o1.drop (m + a.size + b.size) = o := ⟨_, rfl⟩
    have k1 : o2[m + a.size - 1]? = some ab := by
      rw [← ho2, List.append_assoc, List.getElem?_append_left (by omega), List.getElem?_take, if_pos (by omega)]; exact g2
    have k2 : o2.take m = out.take m := by
      rw [← ho2, List.append_assoc, List.take_append_of_le_length (by omega), List.take_take, Nat.min_eq_left (by omega), g4]
    have k3 : o2.drop (m + a.size) = flagsT b ab2 ++ (ab :: out.drop (m + a.size + b.size + 1)) := by
      rw [← ho2, List.append_assoc, List.drop_append_of_le_length (by omega), List.drop_eq_nil_of_le (by omega), List.nil_append, g3]
    rw [ho2, abs_seg l a m ab o2 hoa ha.left k1, k2, k3]
    congr 1
    simp only [flagsT, hab2, List.append_assoc, List.singleton_append]
theorem abs_is {l : List NodeS} {t : Tr} (hok : t.ok) (hl : l = layN 0 t) : absS l = flagsT t false := by
  have hlen : l.length = t.size := by rw [hl, layN_len]
  have ha : AtT l 0 t := ⟨[], [], by rw [List.nil_append, List.append_nil]; exact hl, rfl⟩
  have hp := t.size_pos
  have h := abs_seg l t 0 false (List.replicate l.length false) hok ha (by rw [List.getElem?_replicate, if_pos (by omega)])
  unfold absS
  rw [Nat.zero_add] at h
  rw [hlen] at h ⊢
  rw [h]
  show List.take 0 _ ++ flagsT t false ++ _ = _
  rw [List.take_zero, List.nil_append, List.drop_eq_nil_of_le (by rw [List.length_replicate]; exact Nat.le_refl _), List.append_nil]
end Go.Proofs.Ytcgbcbdgjhnlaaa

