/- Layer 18 (strata), plain: relations by their place in order; what the document finds is what the program finds. No program here. -/
import Derived.Test.YtcgbcbdgjhnlaaaGreatXMF
import Derived.Test.YtcgbcbdgjhnlaaaGreatXMC
import Derived.Test.YtcgbcbdgjhnlaaaGreatXStrL
namespace Go.Proofs.YtcgbcbdgjhnlaaaGreat

def ixP (ss : List SpaceS) (s : Spot) : Nat := (allP (ss.take s.1)).length + s.2
def ixS (c : ConfS) (s : Spot) : Nat := ixP c.spaces s
def keyD (x : NameD) : TypS := ⟨x.1, x.2.name⟩
theorem isN_key (sp rl : List UInt8) (x : NameD) : isN sp rl x = decide (keyD x = ⟨sp, rl⟩) := by
  unfold isN keyD
  rw [Bool.eq_iff_iff]
  simp only [Bool.and_eq_true, decide_eq_true_eq, TypS.mk.injEq]
theorem allP_cons (s : SpaceS) (ss : List SpaceS) : allP (s :: ss) = s.rels.map (fun r => (s.name, r)) ++ allP ss := by unfold allP; rw [List.flatMap_cons]
theorem allP_app (a b : List SpaceS) : allP (a ++ b) = allP a ++ allP b := by unfold allP; rw [List.flatMap_append]
theorem relKeys_fst (nm : List UInt8) (i : Nat) : ∀ (k : Nat) (rs : List RelS), (relKeys nm i k rs).map (·.1) = rs.map fun r => ⟨nm, r.name⟩
  | _, [] => rfl
  | k, r :: rs => by
    show (⟨nm, r.name⟩ : TypS) :: (relKeys nm i (k + 1) rs).map (·.1) = _
    rw [relKeys_fst nm i (k + 1) rs]; rfl
theorem spaceKeys_fst : ∀ (i : Nat) (ss : List SpaceS), (spaceKeys i ss).map (·.1) = (allP ss).map keyD
  | _, [] => rfl
  | i, s :: ss => by
    show (relKeys s.name i 0 s.rels ++ spaceKeys (i + 1) ss).map (·.1) = _
    rw [List.map_append, relKeys_fst, spaceKeys_fst (i + 1) ss, allP_cons, List.map_append, List.map_map]; rfl
theorem relKeys_snd (nm : List UInt8) (i : Nat) : ∀ (k : Nat) (rs : List RelS) (j : Nat) (p : TypS × Spot), (relKeys nm i k rs)[j]? = some p → p.2 = (i, k + j)
  | _, [], _, _, h => by cases h
  | k, r :: rs, 0, p, h => by obtain rfl := Option.some.inj h; rfl
  | k, r :: rs, j + 1, p, h => by
    have := relKeys_snd nm i (k + 1) rs j p h
    rw [this, show k + 1 + j = k + (j + 1) by omega]
theorem spaceKeys_snd : ∀ (ss pre : List SpaceS) (k : Nat) (p : TypS × Spot), (spaceKeys pre.length ss)[k]? = some p → ixP (pre ++ ss) p.2 = (allP pre).length + k
  | [], _, _, _, h => by cases h
  | x :: ss, pre, k, p, h => by
    have h : (relKeys x.name pre.length 0 x.rels ++ spaceKeys (pre.length + 1) ss)[k]? = some p := h
    rcases Nat.lt_or_ge k x.rels.length with hk | hk
    · rw [List.getElem?_append_left (by rw [relKeys_len]; exact hk)] at h
      have e := relKeys_snd _ _ _ _ _ _ h
      unfold ixP
      rw [e]
      show (allP ((pre ++ x :: ss).take pre.length)).length + (0 + k) = _
      rw [List.take_left, Nat.zero_add]
    · rw [List.getElem?_append_right (by rw [relKeys_len]; exact hk), relKeys_len] at h
      have e := spaceKeys_snd ss (pre ++ [x]) (k - x.rels.length) p (by rw [List.length_append, List.length_singleton]; exact h)
      rw [List.append_assoc] at e
      rw [show pre ++ x :: ss = pre ++ ([x] ++ ss) from rfl, e, allP_app, List.length_append]
      have : (allP [x]).length = x.rels.length := by rw [allP_cons, List.length_append, List.length_map]; rfl
      omega
theorem keys_ix {c : ConfS} {k : Nat} {p : TypS × Spot} (h : (keysS c)[k]? = some p) : ixS c p.2 = k := by
  have := spaceKeys_snd c.spaces [] k p h
  rw [List.nil_append] at this
  show ixP c.spaces p.2 = k
  rw [this]; exact Nat.zero_add k
theorem keys_len (c : ConfS) : (keysS c).length = (allD c).length := by
  have := congrArg List.length (spaceKeys_fst 0 c.spaces)
  rwa [List.length_map, List.length_map] at this
theorem find_is (c : ConfS) (sp rl : List UInt8) : findD (allD c) sp rl = match findS c ⟨sp, rl⟩ with | some s => (ixS c s : Int) | none => -1 := by
  unfold findD
  have e : (allD c).findIdx? (isN sp rl) = (keysS c).findIdx? (fun p => decide (p.1 = ⟨sp, rl⟩)) := by
    have h1 : isN sp rl = (fun t => decide (t = (⟨sp, rl⟩ : TypS))) ∘ keyD := funext fun x => isN_key sp rl x
    rw [h1, ← List.findIdx?_map]
    show ((allP c.spaces).map keyD).findIdx? _ = _
    rw [← spaceKeys_fst 0 c.spaces, List.findIdx?_map]; rfl
  rw [e]
  unfold findS findK
  cases hf : (keysS c).findIdx? (fun p => decide (p.1 = (⟨sp, rl⟩ : TypS))) with
  | none =>
    have hn : (keysS c).find? (fun p => decide (p.1 = (⟨sp, rl⟩ : TypS))) = none := by
      rw [List.findIdx?_eq_none_iff] at hf
      rw [List.find?_eq_none]
      intro x hx; rw [hf x hx]; exact Bool.false_ne_true
    rw [hn]; rfl
  | some k =>
    rw [List.findIdx?_eq_some_iff_getElem] at hf
    obtain ⟨h1, h2, h3⟩ := hf
    have hn : (keysS c).find? (fun p => decide (p.1 = (⟨sp, rl⟩ : TypS))) = some (keysS c)[k] := by
      rw [List.find?_eq_some_iff_getElem]
      exact ⟨h2, k, h1, rfl, fun j hj => by have := h3 j hj; simpa using this⟩
    rw [hn]
    show (k : Int) = (ixS c (keysS c)[k].2 : Nat)
    rw [keys_ix (List.getElem?_eq_getElem h1)]
theorem split_at {α : Type} {l : List α} {i : Nat} {x : α} (h : l[i]? = some x) : l = l.take i ++ x :: l.drop (i + 1) := by
  obtain ⟨h1, h2⟩ := List.getElem?_eq_some_iff.1 h
  rw [← h2, ← List.drop_eq_getElem_cons h1, List.take_append_drop]
theorem relAt_get {c : ConfS} {s : Spot} {r : RelS} (h : relAt c s = some r) : ∃ sp, c.spaces[s.1]? = some sp ∧ sp.rels[s.2]? = some r ∧ nameAt c s.1 = sp.name := by
  unfold relAt at h
  obtain ⟨sp, h1, h2⟩ := Option.bind_eq_some_iff.1 h
  exact ⟨sp, h1, h2, by unfold nameAt; rw [h1]; rfl⟩
theorem rel_ix {c : ConfS} {s : Spot} {r : RelS} (h : relAt c s = some r) : (allD c)[ixS c s]? = some (nameAt c s.1, r) := by
  obtain ⟨sp, h1, h2, h3⟩ := relAt_get h
  have hs := split_at h1
  have hl := (List.getElem?_eq_some_iff.1 h2).1
  have e : allD c = allP (c.spaces.take s.1) ++ (sp.rels.map (fun r => (sp.name, r)) ++ allP (c.spaces.drop (s.1 + 1))) := by
    show allP c.spaces = _
    conv => lhs; rw [hs]
    rw [allP_app, allP_cons]
  rw [e, h3]
  show (_ ++ _)[(allP (c.spaces.take s.1)).length + s.2]? = _
  rw [List.getElem?_append_right (by omega), Nat.add_sub_cancel_left, List.getElem?_append_left (by rw [List.length_map]; exact hl), List.getElem?_map, h2]; rfl
theorem ix_lt {c : ConfS} {s : Spot} {r : RelS} (h : relAt c s = some r) : ixS c s < (allD c).length := (List.getElem?_eq_some_iff.1 (rel_ix h)).1
theorem findS_ok {c : ConfS} {t : TypS} {s : Spot} (h : findS c t = some s) : findD (allD c) t.space t.rel = ixS c s := by
  rw [find_is]
  show (match findS c t with | some s => (ixS c s : Int) | none => -1) = _
  rw [h]
theorem findS_no {c : ConfS} {t : TypS} (h : findS c t = none) : findD (allD c) t.space t.rel = -1 := by
  rw [find_is]
  show (match findS c t with | some s => (ixS c s : Int) | none => -1) = _
  rw [h]
def flagsT : Tr → Bool → List Bool
  | .op k a b, ab => flagsT a ab ++ flagsT b (ab || decide (k = 6)) ++ [ab]
  | _, ab => [ab]
theorem flagsT_len : ∀ (t : Tr) (ab : Bool), (flagsT t ab).length = t.size
  | .this, _ => rfl
  | .rel _, _ => rfl
  | .arrow _ _, _ => rfl
  | .op k a b, ab => by
    simp only [flagsT, List.length_append, flagsT_len a, flagsT_len b, List.length_singleton, Tr.size]
theorem cut_one {α : Type} {l : List α} {m : Nat} {x : α} (h : l[m]? = some x) : l.take m ++ [x] ++ l.drop (m + 1) = l := by
  rw [List.append_assoc]; exact (split_at h).symm
theorem absGo_at {l : List NodeS} {i : Nat} {n : NodeS} (h : l[i]? = some n) (out : List Bool) : absGo l (i + 1) out = absGo l i (absStep n i out) := by
  simp only [absGo, h]
theorem abs_seg (l : List NodeS) : ∀ (t : Tr) (m : Nat) (ab : Bool) (out : List Bool), t.ok → AtT l m t → out[m + t.size - 1]? = some ab →
    absGo l (m + t.size) out = absGo l m (out.take m ++ flagsT t ab ++ out.drop (m + t.size))
  | .this, m, ab, out, _, ha, ho => by
    have ho : out[m]? = some ab := ho
    have hr : l[m]? = some (rootT m .this) := ha.root
    rw [show m + Tr.this.size = m + 1 from rfl, absGo_at hr]
    show absGo l m out = absGo l m (out.take m ++ [ab] ++ out.drop (m + 1))
    rw [cut_one ho]
  | .rel w, m, ab, out, _, ha, ho => by
    have ho : out[m]? = some ab := ho
    have hr : l[m]? = some (rootT m (.rel w)) := ha.root
    rw [show m + (Tr.rel w).size = m + 1 from rfl, absGo_at hr]
    show absGo l m out = absGo l m (out.take m ++ [ab] ++ out.drop (m + 1))
    rw [cut_one ho]
  | .arrow w v, m, ab, out, _, ha, ho => by
    have ho : out[m]? = some ab := ho
    have hr : l[m]? = some (rootT m (.arrow w v)) := ha.root
    rw [show m + (Tr.arrow w v).size = m + 1 from rfl, absGo_at hr]
    show absGo l m out = absGo l m (out.take m ++ [ab] ++ out.drop (m + 1))
    rw [cut_one ho]
  | .op k a b, m, ab, out, hok, ha, ho => by
    obtain ⟨hk, hoa, hob⟩ := hok
    have pa := a.size_pos
    have pb := b.size_pos
    have hsz : (Tr.op k a b).size = a.size + b.size + 1 := rfl
    have hroot := ha.root
    rw [hsz] at ho hroot ⊢
    rw [show m + (a.size + b.size + 1) - 1 = m + a.size + b.size by omega] at ho hroot
    have hlen : m + a.size + b.size < out.length := (List.getElem?_eq_some_iff.1 ho).1
    rw [show m + (a.size + b.size + 1) = m + a.size + b.size + 1 by omega, absGo_at hroot]
    obtain ⟨ab2, hab2⟩ : ∃ y, (ab || decide (k = 6)) = y := ⟨_, rfl⟩
    have hg : out.getD (m + a.size + b.size) false = ab := by rw [List.getD_eq_getElem?_getD, ho]; rfl
    have hst : absStep (rootT m (.op k a b)) (m + a.size + b.size) out = (out.set (m + a.size - 1) ab).set (m + a.size + b.size - 1) ab2 := by
      unfold absStep
      have hk4 : (4 : Int) ≤ (rootT m (.op k a b)).kind := by show (4 : Int) ≤ (k : Nat); omega
      rw [if_pos hk4, hg]
      have e1 : (rootT m (.op k a b)).a.toNat = m + a.size - 1 := by show (((m + a.size : Nat) : Int) - 1).toNat = _; omega
      have e2 : (rootT m (.op k a b)).b.toNat = m + a.size + b.size - 1 := by show (((m + a.size + b.size : Nat) : Int) - 1).toNat = _; omega
      have e3 : (out.set (m + a.size - 1) ab).getD (m + a.size + b.size) false = ab := by
        rw [List.getD_eq_getElem?_getD, List.getElem?_set, if_neg (by omega), ho]; rfl
      have e4 : decide ((rootT m (.op k a b)).kind = 6) = decide (k = 6) := by
        rw [Bool.eq_iff_iff, decide_eq_true_eq, decide_eq_true_eq]
        show ((k : Nat) : Int) = 6 ↔ k = 6
        omega
      rw [e1, e2, e3, e4, hab2]
    rw [hst]
    obtain ⟨o1, ho1⟩ : ∃ o, (out.set (m + a.size - 1) ab).set (m + a.size + b.size - 1) ab2 = o := ⟨_, rfl⟩
    have g1 : o1[m + a.size + b.size - 1]? = some ab2 := by
      rw [← ho1, List.getElem?_set, if_pos rfl, if_pos (by rw [List.length_set]; omega)]
    have g2 : o1[m + a.size - 1]? = some ab := by
      rw [← ho1, List.getElem?_set, if_neg (by omega), List.getElem?_set, if_pos rfl, if_pos (by omega)]
    have g3 : o1.drop (m + a.size + b.size) = ab :: out.drop (m + a.size + b.size + 1) := by
      rw [← ho1, List.drop_set_of_lt (by omega), List.drop_set_of_lt (by omega)]
      obtain ⟨h1, h2⟩ := List.getElem?_eq_some_iff.1 ho
      rw [List.drop_eq_getElem_cons h1, h2]
    have g4 : o1.take m = out.take m := by
      rw [← ho1, List.take_set_of_le (by omega), List.take_set_of_le (by omega)]
    have hl1 : o1.length = out.length := by rw [← ho1, List.length_set, List.length_set]
    rw [ho1]
    have i1 := abs_seg l b (m + a.size) ab2 o1 hob ha.right g1
    rw [i1]
    have htk : (o1.take (m + a.size)).length = m + a.size := by rw [List.length_take]; omega
    obtain ⟨o2, ho2⟩ : ∃ o, o1.take (m + a.size) ++ flagsT b ab2 ++ o1.drop (m + a.size + b.size) = o := ⟨_, rfl⟩
    have k1 : o2[m + a.size - 1]? = some ab := by
      rw [← ho2, List.append_assoc, List.getElem?_append_left (by omega), List.getElem?_take, if_pos (by omega)]; exact g2
    have k2 : o2.take m = out.take m := by
      rw [← ho2, List.append_assoc, List.take_append_of_le_length (by omega), List.take_take, Nat.min_eq_left (by omega), g4]
    have k3 : o2.drop (m + a.size) = flagsT b ab2 ++ (ab :: out.drop (m + a.size + b.size + 1)) := by
      rw [← ho2, List.append_assoc, List.drop_append_of_le_length (by omega), List.drop_eq_nil_of_le (by omega), List.nil_append, g3]
    rw [ho2, abs_seg l a m ab o2 hoa ha.left k1, k2, k3]
    congr 1
    simp only [flagsT, hab2, List.append_assoc, List.singleton_append]
theorem abs_is {l : List NodeS} {t : Tr} (hok : t.ok) (hl : l = layN 0 t) : absS l = flagsT t false := by
  have hlen : l.length = t.size := by rw [hl, layN_len]
  have ha : AtT l 0 t := ⟨[], [], by rw [List.nil_append, List.append_nil]; exact hl, rfl⟩
  have hp := t.size_pos
  have h := abs_seg l t 0 false (List.replicate l.length false) hok ha (by rw [List.getElem?_replicate, if_pos (by omega)])
  unfold absS
  rw [Nat.zero_add] at h
  rw [hlen] at h ⊢
  rw [h]
  show List.take 0 _ ++ flagsT t false ++ _ = _
  rw [List.take_zero, List.nil_append, List.drop_eq_nil_of_le (by rw [List.length_replicate]; exact Nat.le_refl _), List.append_nil]
end Go.Proofs.YtcgbcbdgjhnlaaaGreat

/- Layer 18 (strata), the document's question whether something is declared twice, walked. No statement is proved here. -/
namespace Go.Proofs.YtcgbcbdgjhnlaaaGreat
open Go.RowKit

theorem nodup_take {α : Type} {l : List α} {i : Nat} {x : α} (hx : l[i]? = some x) (h : (l.take i).Nodup) (hn : x ∉ l.take i) : (l.take (i + 1)).Nodup := by
  rw [List.take_add_one, hx, Option.toList_some]
  exact nodup_snoc h hn
theorem nodup_pair {α : Type} {l : List α} {i k : Nat} {x y : α} (hx : l[i]? = some x) (hy : l[k]? = some y) (hik : k < i) (e : x = y) : ¬ l.Nodup := by
  intro h
  obtain ⟨h1, h2⟩ := List.getElem?_eq_some_iff.1 hx
  obtain ⟨h3, h4⟩ := List.getElem?_eq_some_iff.1 hy
  exact List.pairwise_iff_getElem.1 h k i h3 h1 hik (by rw [h2, h4, e])
theorem find_first {l : List NameD} {i : Nat} {x : NameD} (hx : l[i]? = some x) : (findD l x.1 x.2.name = i ∧ keyD x ∉ (l.map keyD).take i) ∨ (findD l x.1 x.2.name ≠ i ∧ ¬ (l.map keyD).Nodup) := by
  have hkx : (l.map keyD)[i]? = some (keyD x) := by rw [List.getElem?_map, hx]; rfl
  have hq : isN x.1 x.2.name x = true := by rw [isN_key]; exact decide_eq_true rfl
  by_cases hno : ∀ y ∈ l.take i, isN x.1 x.2.name y = false
  · refine .inl ⟨findD_yes hx hq hno, not_mem_take fun k hk y hy e => ?_⟩
    rw [List.getElem?_map] at hy
    obtain ⟨z, hz, rfl⟩ := Option.map_eq_some_iff.1 hy
    have h1 := hno z (List.mem_of_getElem? (by rw [List.getElem?_take, if_pos hk]; exact hz))
    rw [isN_key] at h1
    exact of_decide_eq_false h1 e.symm
  · have : ∃ y ∈ l.take i, isN x.1 x.2.name y = true := by
      refine Classical.byContradiction fun h => hno fun y hy => ?_
      cases hb : isN x.1 x.2.name y with
      | false => rfl
      | true => exact absurd ⟨y, hy, hb⟩ h
    obtain ⟨y, hy, hb⟩ := this
    obtain ⟨k, hk⟩ := List.mem_iff_getElem?.1 hy
    rw [List.getElem?_take] at hk
    split at hk
    · rename_i hki
      rw [isN_key] at hb
      have hb : keyD y = keyD x := of_decide_eq_true hb
      have hky : (l.map keyD)[k]? = some (keyD y) := by rw [List.getElem?_map, hk]; rfl
      have hnd := nodup_pair hkx hky hki hb.symm
      refine .inr ⟨fun e => ?_, hnd⟩
      unfold findD at e
      cases hf : l.findIdx? (isN x.1 x.2.name) with
      | none => rw [hf] at e; have e : (-1 : Int) = i := e; omega
      | some j =>
        rw [hf] at e
        have e : (j : Int) = i := e
        rw [List.findIdx?_eq_some_iff_getElem] at hf
        obtain ⟨_, _, h3⟩ := hf
        obtain ⟨h4, h5⟩ := List.getElem?_eq_some_iff.1 hk
        have h6 := h3 k (by omega)
        rw [h5, isN_key, hb] at h6
        exact h6 (decide_eq_true rfl)
    · cases hk
theorem once_is (c : ConfS) : onceS c = (decide ((c.spaces.map (·.name)).Nodup) && decide (((allD c).map keyD).Nodup) && decide ((c.scopes.map (·.name)).Nodup)) := by
  unfold onceS keysS
  rw [spaceKeys_fst]
  rfl
set_option maxRecDepth 20000 in
set_option maxHeartbeats 16000000 in
theorem twice_x (x : ConfS) (cs : List Value) (W : PW) (hB : BdC x) (hl : (allD x).length ≤ 1000000) (h : ConfR W x cs) : CallsX Tryz.prog 32 ⟨[.agg ⟨cs⟩]⟩ [] W fun v _ => v = .bool (!onceS x) := by
  have hC := h
  obtain ⟨sv, kv, rfl, hS, hK⟩ := h
  obtain ⟨a1, c1, rfl, _, _⟩ := hS.form
  obtain ⟨a2, c2, rfl, _, _⟩ := hK.form
  have hn := hB.1
  have hm := hB.2.1
  obtain ⟨R, hR⟩ : ∃ R, onceS x = R := ⟨_, rfl⟩
  have hdef := once_is x
  rw [hR] at hdef
  have no1 : ¬ (x.spaces.map (·.name)).Nodup → R = false := fun h => by rw [hdef, decide_eq_false h]; rfl
  have no2 : ¬ ((allD x).map keyD).Nodup → R = false := fun h => by rw [hdef, decide_eq_false h, Bool.and_false, Bool.false_and]
  have no3 : ¬ (x.scopes.map (·.name)).Nodup → R = false := fun h => by rw [hdef, decide_eq_false h, Bool.and_false]
  rw [hR]
  refine pureX hmix Tryz.func32 r32 (by kernel_rfl) [.agg ⟨[.slice a1 x.spaces.length c1, .slice a2 x.scopes.length c2]⟩] rfl ?_
  refine ⟨Nat, fun i => [(3, .v (.int .i64 i))], fun _ => [[.v (.slice a1 x.spaces.length c1), .v (.slice a2 x.scopes.length c2)]], fun _ => [], fun i _ => i ≤ x.spaces.length ∧ ((x.spaces.map (·.name)).take i).Nodup, fun i => x.spaces.length - i, 0,
    all_sl ⟨rfl, trivial⟩, rfl, ole_refl _, ⟨Nat.zero_le _, by simp⟩, loopOK (fun _ => ⟨⟨trivial, rfl⟩, trivial⟩) (fun _ => rfl) (fun _ => rfl), ?_⟩
  rintro i W1 l1 ⟨hi, hI⟩ fr
  refine ⟨rfl, ?_⟩
  apply br_split
  · intro hq
    have hq : (i : Int) < x.spaces.length := hq
    have inc := (i64_in ((i : Int) + 1) ⟨by omega, by omega⟩).symm
    obtain ⟨pc, rfl, s, ds, hx, _, ⟨rv, hds, _⟩, hrd, _⟩ := hS.at SpR.mono l1 (j := (i : Int)) ⟨by omega, hq⟩
    have hx : x.spaces[i]? = some s := hx
    obtain ⟨ni, hni⟩ : ∃ n, s.name = n := ⟨_, rfl⟩
    have hxn : (x.spaces.map (·.name))[i]? = some ni := by rw [List.getElem?_map, hx, ← hni]; rfl
    subst hds
    rw [hni] at hrd
    refine ⟨Nat, fun k => [(4, .v (.int .i64 k))], fun _ => [[.v (.slice (some pc) x.spaces.length c1), .v (.slice a2 x.scopes.length c2)]], fun _ => [], fun k _ => k ≤ i ∧ ∀ k' < k, ∀ y, (x.spaces.map (·.name))[k']? = some y → ¬ ni = y, fun k => i - k, 0,
      all_sl ⟨rfl, trivial⟩, rfl, ole_refl _, ⟨Nat.zero_le _, fun _ h => absurd h (Nat.not_lt_zero _)⟩, loopOK (fun _ => ⟨⟨trivial, rfl⟩, trivial⟩) (fun _ => rfl) (fun _ => rfl), ?_⟩
    rintro k W2 l2 ⟨hk, hKn⟩ fr2
    refine ⟨rfl, ?_⟩
    apply br_split
    · intro hqk
      have hqk : (k : Int) < i := hqk
      have inck := (i64_in ((k : Int) + 1) ⟨by omega, by omega⟩).symm
      obtain ⟨pc', hpc', s2, ds2, hx2, _, ⟨rv2, hds2, _⟩, hrd2, _⟩ := hS.at SpR.mono (l1.trans l2) (j := (k : Int)) ⟨by omega, by omega⟩
      obtain rfl : pc = pc' := Option.some.inj hpc'
      have hx2 : x.spaces[k]? = some s2 := hx2
      obtain ⟨nk, hnk⟩ : ∃ n, s2.name = n := ⟨_, rfl⟩
      have hxk : (x.spaces.map (·.name))[k]? = some nk := by rw [List.getElem?_map, hx2, ← hnk]; rfl
      subst hds2
      rw [hnk] at hrd2
      refine ⟨⟨by omega, hq⟩, pc, rfl, strV ni, ((hrd 0 _ rfl).mono l2).o, ⟨by omega, by show (k : Int) < x.spaces.length; omega⟩, pc, rfl, strV nk, (hrd2 0 _ rfl).o, ?_⟩
      apply br_split
      · intro he
        have he : ni = nk := he
        exact ret_plain rfl fun _ _ => by rw [no1 (nodup_pair hxn hxk (by omega) he)]; rfl
      · intro he
        have he : ¬ ni = nk := he
        refine ⟨rfl, _, inck, k + 1, all_sl ⟨rfl, trivial⟩, rfl, ole_refl _, ⟨by omega, fun k' hk' y hy => ?_⟩, by dsimp only; omega⟩
        rcases Nat.lt_or_ge k' k with h1 | h1
        · exact hKn k' h1 y hy
        · obtain rfl : k' = k := by omega
          rw [hxk] at hy
          rw [← Option.some.inj hy]; exact he
    · intro hqk
      have hqk : ¬ (k : Int) < i := hqk
      exact ⟨rfl, _, inc, i + 1, all_sl ⟨rfl, trivial⟩, rfl, ole_refl _, ⟨by omega, nodup_take hxn hI (not_mem_take fun k' hk' y hy => hKn k' (by omega) y hy)⟩, by dsimp only; omega⟩
  · intro hq
    have hq : ¬ (i : Int) < x.spaces.length := hq
    rw [List.take_of_length_le (by rw [List.length_map]; omega)] at hI
    rw [decide_eq_true hI, Bool.true_and] at hdef
    refine call_v rfl (fun W' lw => alld_x x _ W' hB (ConfR.mono _ _ _ _ (l1.trans lw) hC)) (fun W2 v2 W3 l2 l3 hv2 => ?_)
    obtain ⟨l, hall⟩ : ∃ l, allD x = l := ⟨_, rfl⟩
    rw [hall] at hl hv2 hdef no2
    obtain ⟨a3, c3, rfl, _, _⟩ := hv2.form
    refine ⟨Nat, fun i => [(6, .v (.int .i64 i))], fun _ => [[.v (.slice a1 x.spaces.length c1), .v (.slice a2 x.scopes.length c2)]], fun _ => [], fun i _ => i ≤ l.length ∧ ((l.map keyD).take i).Nodup, fun i => l.length - i, 0,
      all_sl ⟨rfl, trivial⟩, rfl, ole_refl _, ⟨Nat.zero_le _, by simp⟩, loopOK (fun _ => ⟨⟨trivial, rfl⟩, trivial⟩) (fun _ => rfl) (fun _ => rfl), ?_⟩
    rintro j W4 l4 ⟨hj, hJ⟩ fr2
    refine ⟨rfl, ?_⟩
    apply br_split
    · intro hqj
      have hqj : (j : Int) < l.length := hqj
      have incj := (i64_in ((j : Int) + 1) ⟨by omega, by omega⟩).symm
      obtain ⟨pc, rfl, y, ds, hy, _, ⟨tv, nv, hds, _, _⟩, hrd, _⟩ := hv2.at nameR.mono l4 (j := (j : Int)) ⟨by omega, hqj⟩
      have hy : l[j]? = some y := hy
      have hff := find_first hy
      have hky : (l.map keyD)[j]? = some (keyD y) := by rw [List.getElem?_map, hy]; rfl
      subst hds
      obtain ⟨ys, yr⟩ := y
      obtain ⟨rn, hrn⟩ : ∃ n, yr.name = n := ⟨_, rfl⟩
      dsimp only at hrd hff
      rw [hrn] at hrd hff
      have hr1 : Rd W4 (((pc.add ((j : Int).toNat * 4)).add 1).add 0) (strV rn) := by rw [Addr.add_add]; exact hrd 1 _ rfl
      obtain ⟨z, hz⟩ : ∃ z, findD l ys rn = z := ⟨_, rfl⟩
      rw [hz] at hff
      refine ⟨⟨by omega, hqj⟩, pc, rfl, strV ys, (hrd 0 _ rfl).o, ⟨by omega, hqj⟩, pc, rfl, strV rn, hr1.o, ?_⟩
      refine call_e (x := .int .i64 z) rfl (fun W' lw => hz ▸ findd_x l ys rn _ W' hl (hv2.mono nameR.mono (l4.trans lw))) (fun W5 l5 => ?_)
      refine ⟨rfl, ?_⟩
      apply br_nsplit
      · intro he
        have he : ¬ z = (j : Int) := he
        have hnd : ¬ (l.map keyD).Nodup := hff.elim (fun h => absurd h.1 he) fun h => h.2
        exact ret_plain rfl fun _ _ => by rw [no2 hnd]; rfl
      · intro he
        have he : z = (j : Int) := he
        have hnm : keyD (ys, yr) ∉ (l.map keyD).take j := hff.elim (fun h => h.2) fun h => absurd he h.1
        exact ⟨rfl, _, incj, j + 1, all_sl ⟨rfl, trivial⟩, rfl, ole_refl _, ⟨by omega, nodup_take hky hJ hnm⟩, by dsimp only; omega⟩
    · intro hqj
      have hqj : ¬ (j : Int) < l.length := hqj
      rw [List.take_of_length_le (by rw [List.length_map]; omega)] at hJ
      rw [decide_eq_true hJ, Bool.true_and] at hdef
      have l04 := l1.trans (l2.trans (l3.trans l4))
      refine ⟨Nat, fun i => [(7, .v (.int .i64 i))], fun _ => [[.v (.slice a1 x.spaces.length c1), .v (.slice a2 x.scopes.length c2)]], fun _ => [], fun i _ => i ≤ x.scopes.length ∧ ((x.scopes.map (·.name)).take i).Nodup, fun i => x.scopes.length - i, 0,
        all_sl ⟨rfl, trivial⟩, rfl, ole_refl _, ⟨Nat.zero_le _, by simp⟩, loopOK (fun _ => ⟨⟨trivial, rfl⟩, trivial⟩) (fun _ => rfl) (fun _ => rfl), ?_⟩
      rintro p W5 l5 ⟨hp, hP⟩ fr3
      refine ⟨rfl, ?_⟩
      apply br_split
      · intro hqp
        have hqp : (p : Int) < x.scopes.length := hqp
        have incp := (i64_in ((p : Int) + 1) ⟨by omega, by omega⟩).symm
        obtain ⟨pt, rfl, t, ht, _, _, hrt⟩ := RP.at (f := scopeC) (sz := 4) (fun _ => rfl) hK (l04.trans l5) (j := (p : Int)) ⟨by omega, by omega⟩
        have ht : x.scopes[p]? = some t := ht
        obtain ⟨ni, hni⟩ : ∃ n, t.name = n := ⟨_, rfl⟩
        have hxn : (x.scopes.map (·.name))[p]? = some ni := by rw [List.getElem?_map, ht, ← hni]; rfl
        have hrt0 : Rd W5 ((pt.add ((p : Int).toNat * 4)).add 0) (strV ni) := by rw [← hni]; exact hrt 0 _ rfl
        refine ⟨Nat, fun k => [(8, .v (.int .i64 k))], fun _ => [[.v (.slice a1 x.spaces.length c1), .v (.slice (some pt) x.scopes.length c2)]], fun _ => [], fun k _ => k ≤ p ∧ ∀ k' < k, ∀ y, (x.scopes.map (·.name))[k']? = some y → ¬ ni = y, fun k => p - k, 0,
          all_sl ⟨rfl, trivial⟩, rfl, ole_refl _, ⟨Nat.zero_le _, fun _ h => absurd h (Nat.not_lt_zero _)⟩, loopOK (fun _ => ⟨⟨trivial, rfl⟩, trivial⟩) (fun _ => rfl) (fun _ => rfl), ?_⟩
        rintro k W6 l6 ⟨hk, hKn⟩ fr4
        refine ⟨rfl, ?_⟩
        apply br_split
        · intro hqk
          have hqk : (k : Int) < p := hqk
          have inck := (i64_in ((k : Int) + 1) ⟨by omega, by omega⟩).symm
          obtain ⟨pt', hpt', t2, ht2, _, _, hrt2⟩ := RP.at (f := scopeC) (sz := 4) (fun _ => rfl) hK (l04.trans (l5.trans l6)) (j := (k : Int)) ⟨by omega, by omega⟩
          obtain rfl : pt = pt' := Option.some.inj hpt'
          have ht2 : x.scopes[k]? = some t2 := ht2
          obtain ⟨nk, hnk⟩ : ∃ n, t2.name = n := ⟨_, rfl⟩
          have hxk : (x.scopes.map (·.name))[k]? = some nk := by rw [List.getElem?_map, ht2, ← hnk]; rfl
          have hrt20 : Rd W6 ((pt.add ((k : Int).toNat * 4)).add 0) (strV nk) := by rw [← hnk]; exact hrt2 0 _ rfl
          refine ⟨⟨by omega, hqp⟩, pt, rfl, strV ni, (hrt0.mono l6).o, ⟨by omega, by show (k : Int) < x.scopes.length; omega⟩, pt, rfl, strV nk, hrt20.o, ?_⟩
          apply br_split
          · intro he
            have he : ni = nk := he
            exact ret_plain rfl fun _ _ => by rw [no3 (nodup_pair hxn hxk (by omega) he)]; rfl
          · intro he
            have he : ¬ ni = nk := he
            refine ⟨rfl, _, inck, k + 1, all_sl ⟨rfl, trivial⟩, rfl, ole_refl _, ⟨by omega, fun k' hk' y hy => ?_⟩, by dsimp only; omega⟩
            rcases Nat.lt_or_ge k' k with h1 | h1
            · exact hKn k' h1 y hy
            · obtain rfl : k' = k := by omega
              rw [hxk] at hy
              rw [← Option.some.inj hy]; exact he
        · intro hqk
          have hqk : ¬ (k : Int) < p := hqk
          exact ⟨rfl, _, incp, p + 1, all_sl ⟨rfl, trivial⟩, rfl, ole_refl _, ⟨by omega, nodup_take hxn hP (not_mem_take fun k' hk' y hy => hKn k' (by omega) y hy)⟩, by dsimp only; omega⟩
      · intro hqp
        have hqp : ¬ (p : Int) < x.scopes.length := hqp
        rw [List.take_of_length_le (by rw [List.length_map]; omega)] at hP
        rw [decide_eq_true hP] at hdef
        exact ret_plain rfl fun _ _ => by rw [hdef]; rfl
end Go.Proofs.YtcgbcbdgjhnlaaaGreat

/- Layer 18 (strata), the document's walk over a relation's nodes. No statement is proved here. -/
namespace Go.Proofs.YtcgbcbdgjhnlaaaGreat
open Go.RowKit

def WalkC (t : Tr) : Prop := ∀ (l : List NameD) (f : Nat) (x : NameD) (m : Nat) (ab : Bool) (u : Value) (W : PW), l[f]? = some x → AtT x.2.nodes m t → (∀ x ∈ l, x.2.types.length ≤ 1000 ∧ x.2.nodes.length ≤ 1000) → l.length ≤ 1000000 → RL nameR 4 W u l →
  CallsX Tryz.prog 50 ⟨[u, .int .i64 f, .int .i64 (((m + t.size : Nat) : Int) - 1), .bool ab]⟩ [] W fun v W' => ∃ y, v = .tuple ⟨[y, .bool (walkT l f t ab).2]⟩ ∧ RP deC W' y (walkT l f t ab).1
theorem deC_one (e : DE) : ∀ u ∈ deC e, u.oneCell' = true := by
  intro u hu
  simp only [deC, List.mem_cons, List.not_mem_nil, or_false] at hu
  rcases hu with rfl | rfl | rfl <;> rfl
def edO (A : Option Addr) (n c : Nat) (es : List DE) : Own := ⟨.slice A n c, 119, 3, n, (es.map deC).flatten⟩
/-- The relation, its node. -/
theorem walk_pre {l : List NameD} {f : Nat} {x : NameD} {m : Nat} {t : Tr} {u : Value} {W : PW} (hx : l[f]? = some x) (ha : AtT x.2.nodes m t) (hu : RL nameR 4 W u l) :
    ∃ pc c, u = .slice (some pc) l.length c ∧ ∃ ta tc pn nc, RP typC W (.slice ta x.2.types.length tc) x.2.types ∧
      Rd W ((pc.add ((f : Int).toNat * 4)).add 0) (strV x.1) ∧ Rd W (((pc.add ((f : Int).toNat * 4)).add 1).add 1) (.slice ta x.2.types.length tc) ∧ Rd W (((pc.add ((f : Int).toNat * 4)).add 1).add 2) (.slice (some pn) x.2.nodes.length nc) ∧
      (0 ≤ ((m + t.size : Nat) : Int) - 1 ∧ ((m + t.size : Nat) : Int) - 1 < x.2.nodes.length) ∧ Rds W (pn.add ((((m + t.size : Nat) : Int) - 1).toNat * 5)) (nodeC (rootT m t)) := by
  obtain ⟨a1, c1, rfl, _, _⟩ := hu.form
  have hf : f < l.length := (List.getElem?_eq_some_iff.1 hx).1
  obtain ⟨pc, rfl, y, cs, hy, _, ⟨tv, nv, hcs, hT, hN⟩, hall, _⟩ := hu.at nameR.mono (PW.Le.refl _) (j := (f : Int)) ⟨by omega, by omega⟩
  have hy : l[f]? = some y := hy
  rw [hx] at hy
  obtain rfl := Option.some.inj hy
  subst hcs
  obtain ⟨ta, tc, rfl, _, _⟩ := hT.form
  obtain ⟨na, nc, rfl, _, _⟩ := hN.form
  have hp := t.size_pos
  have hln := ha.len
  obtain ⟨pn, rfl, n, hn, _, _, hrds⟩ := hN.at (sz := 5) (fun _ => rfl) (PW.Le.refl _) (j := ((m + t.size : Nat) : Int) - 1) ⟨by omega, by omega⟩
  have hn : x.2.nodes[m + t.size - 1]? = some n := by rw [← hn]; congr 1; omega
  rw [ha.root] at hn
  obtain rfl := Option.some.inj hn
  exact ⟨pc, c1, rfl, ta, tc, pn, nc, hT, hall 0 _ rfl, by rw [Addr.add_add]; exact hall 2 _ rfl, by rw [Addr.add_add]; exact hall 3 _ rfl, ⟨by omega, by omega⟩, hrds⟩
set_option maxHeartbeats 4000000 in
theorem walk_rel (w : List UInt8) : WalkC (.rel w) := by
  intro l f x m ab u W hx ha hb hl hu
  obtain ⟨pc, c, rfl, ta, tc, pn, nc, hT, h0, _, h2, hi, hrds⟩ := walk_pre hx ha hu
  have hf : f < l.length := (List.getElem?_eq_some_iff.1 hx).1
  have hmax : (10000000 : Nat) ≤ maxLen := by decide
  have hsp : spAt l f = x.1 := by unfold spAt; rw [hx]; rfl
  refine pureNX hmix Tryz.func50 r50 (by kernel_rfl) [nilO 119 3] rfl [.slice (some pc) l.length c, .int .i64 f, .int .i64 (((m + (Tr.rel w).size : Nat) : Int) - 1), .bool ab] rfl ?_
  obtain ⟨at_, hat⟩ : ∃ z, ((m + (Tr.rel w).size : Nat) : Int) - 1 = z := ⟨_, rfl⟩
  rw [hat] at hi hrds ⊢
  have hrds : Rds W (pn.add (at_.toNat * 5)) [.int .i64 2, strV w, strV [], .int .i64 0, .int .i64 0] := hrds
  refine ⟨⟨by omega, by omega⟩, pc, rfl, .slice (some pn) x.2.nodes.length nc, h2.o, hi, pn, rfl, [.int .i64 2, strV w, strV [], .int .i64 0, .int .i64 0], rfl, hrds.o, ?_⟩
  refine ⟨rfl, rfl, rfl, rfl, ⟨by omega, by omega⟩, pc, rfl, strV x.1, h0.o, ?_⟩
  refine call_v rfl (fun W' lw => findd_x l x.1 w _ W' hl (hu.mono nameR.mono lw)) (fun W1 v W2 l1 l2 hv => ?_)
  obtain ⟨z, hz, rfl⟩ : ∃ z, findD l x.1 w = z ∧ v = .int .i64 z := ⟨_, rfl, hv⟩
  have hw : walkT l f (.rel w) ab = ([⟨f, z, ab⟩], decide (0 ≤ z)) := by show ([(⟨f, findD l (spAt l f) w, ab⟩ : DE)], decide (0 ≤ findD l (spAt l f) w)) = _; rw [hsp, hz]
  rw [hw]
  refine ⟨rfl, .inl ?_⟩
  intro bd Wd ld hrd
  refine ⟨0, _, [.int .i64 f, .int .i64 z, .bool ab], rfl, rfl, rfl, rfl, rfl, deC_one ⟨f, z, ab⟩, fun _ => ⟨_, rfl, hrd.o⟩, by show 0 + 1 ≤ maxLen; omega, by decide, rfl, @fun Ae ce _ => ?_⟩
  refine ⟨rfl, ?_⟩
  refine RetVC.freeze (i := 0) (fun _ hb => hb) rfl fun W3 l3 hfr => ?_
  exact ret_plain rfl fun W4 l4 => ⟨_, rfl, SlRead.mono hfr l4⟩

theorem slR {W : PW} {A : Option Addr} {n c : Nat} {cs : List Value} {es : List DE} (h : SlRead W (.slice A n c) n cs) (hn : n = es.length) (hc : cs = (es.map deC).flatten) : RP deC W (.slice A n c) es := by
  subst hn hc; exact h
set_option maxHeartbeats 8000000 in
theorem walk_op (k : Nat) (a b : Tr) (hk : k = 4 ∨ k = 5 ∨ k = 6) (iha : WalkC a) (ihb : WalkC b) : WalkC (.op k a b) := by
  intro l f x m ab u W hx ha hb hl hu
  obtain ⟨pc, c, rfl, ta, tc, pn, nc, hT, h0, _, h2, hi, hrds⟩ := walk_pre hx ha hu
  have hf : f < l.length := (List.getElem?_eq_some_iff.1 hx).1
  have hmax : (10000000 : Nat) ≤ maxLen := by decide
  have hla := ha.left
  have hra := ha.right
  have e1 := walkT_len (fun x hx => (hb x hx).1) f a ab
  have e2 := walkT_len (fun x hx => (hb x hx).1) f b (ab || decide (k = 6))
  have hsz : m + (a.size + b.size + 1) ≤ x.2.nodes.length := ha.len
  have hnl := (hb x (List.mem_of_getElem? hx)).2
  refine pureNX hmix Tryz.func50 r50 (by kernel_rfl) [nilO 119 3] rfl [.slice (some pc) l.length c, .int .i64 f, .int .i64 (((m + (Tr.op k a b).size : Nat) : Int) - 1), .bool ab] rfl ?_
  obtain ⟨at_, hat⟩ : ∃ z, ((m + (Tr.op k a b).size : Nat) : Int) - 1 = z := ⟨_, rfl⟩
  rw [hat] at hi hrds ⊢
  have hw : walkT l f (.op k a b) ab = ((walkT l f a ab).1 ++ (walkT l f b (ab || decide (k = 6))).1, (walkT l f a ab).2 && (walkT l f b (ab || decide (k = 6))).2) := rfl
  rw [hw]
  obtain ⟨ab2, hab2⟩ : ∃ y, (ab || decide (k = 6)) = y := ⟨_, rfl⟩
  rw [hab2] at e2 ⊢
  have iha := iha l f x m ab
  have ihb := ihb l f x (m + a.size) ab2
  obtain ⟨R1, hR1⟩ : ∃ y, walkT l f a ab = y := ⟨_, rfl⟩
  obtain ⟨R2, hR2⟩ : ∃ y, walkT l f b ab2 = y := ⟨_, rfl⟩
  rw [hR1] at e1 iha ⊢
  rw [hR2] at e2 ihb ⊢
  obtain ⟨na, hna⟩ : ∃ z, ((m + a.size : Nat) : Int) - 1 = z := ⟨_, rfl⟩
  obtain ⟨nb, hnb⟩ : ∃ z, ((m + a.size + b.size : Nat) : Int) - 1 = z := ⟨_, rfl⟩
  rw [hna] at iha
  rw [hnb] at ihb
  have hrds : Rds W (pn.add (at_.toNat * 5)) [.int .i64 k, strV [], strV [], .int .i64 (((m + a.size : Nat) : Int) - 1), .int .i64 (((m + a.size + b.size : Nat) : Int) - 1)] := hrds
  rw [hna, hnb] at hrds
  refine ⟨⟨by omega, by omega⟩, pc, rfl, .slice (some pn) x.2.nodes.length nc, h2.o, hi, pn, rfl, [.int .i64 k, strV [], strV [], .int .i64 na, .int .i64 nb], rfl, hrds.o, ?_⟩
  obtain ⟨E1, b1⟩ := R1
  obtain ⟨E2, b2⟩ := R2
  dsimp only at e1 e2 iha ihb ⊢
  rcases hk with rfl | rfl | rfl
  case' inl => refine ⟨rfl, ?_⟩
  case' inr.inl => refine ⟨rfl, rfl, ?_⟩
  case' inr.inr => refine ⟨rfl, rfl, rfl, ?_⟩
  all_goals
    refine call_v rfl (fun W' lw => iha _ W' hx hla hb hl (hu.mono nameR.mono lw)) (fun W1 v W2 l1 l2 hv => ?_)
    obtain ⟨y1, rfl, hy1⟩ := hv
    obtain ⟨A1, c1, rfl, _, _⟩ := hy1.form
    refine ⟨_, rfl, _, rfl, ?_⟩
    have l12 := l1.trans l2
    cases ab
  case' inl.false => (obtain rfl : false = ab2 := hab2; refine ⟨rfl, ?_⟩)
  case' inl.true => obtain rfl : true = ab2 := hab2
  case' inr.inl.false => (obtain rfl : false = ab2 := hab2; refine ⟨rfl, ?_⟩)
  case' inr.inl.true => obtain rfl : true = ab2 := hab2
  case' inr.inr.false => (obtain rfl : true = ab2 := hab2; refine ⟨rfl, ?_⟩)
  case' inr.inr.true => obtain rfl : true = ab2 := hab2
  all_goals
    refine call_v rfl (fun W' lw => ihb _ W' hx hra hb hl (hu.mono nameR.mono (l12.trans lw))) (fun W3 v W4 l3 l4 hv => ?_)
    obtain ⟨y2, rfl, hy2⟩ := hv
    obtain ⟨A2, c2, rfl, _, _⟩ := hy2.form
    have hy1 := hy1.mono (l3.trans l4)
    refine ⟨_, rfl, _, rfl, 0, _, (E1.map deC).flatten, rfl, rfl, rfl, rfl, len_flat (f := deC) (sz := 3) (fun _ => rfl) E1, one_flat deC_one E1, fun hp => ?_, by show 0 + E1.length ≤ maxLen; omega, by show (0 + E1.length) * 24 ≤ 140737488355328; omega, rfl, @fun A3 c3 _ => ?_⟩
    · obtain ⟨_, _, he, _, _, hr⟩ := hy1
      obtain ⟨a', ha', hrd⟩ := hr hp
      simp only [Value.slice.injEq] at he
      exact ⟨a', he.1.trans ha', hrd.o⟩
    refine ⟨0, _, (E2.map deC).flatten, rfl, rfl, rfl, rfl, len_flat (f := deC) (sz := 3) (fun _ => rfl) E2, one_flat deC_one E2, fun hp => ?_, by show 0 + E1.length + E2.length ≤ maxLen; omega, by show (0 + E1.length + E2.length) * 24 ≤ 140737488355328; omega, rfl, @fun A4 c4 _ => ?_⟩
    · obtain ⟨_, _, he, _, _, hr⟩ := hy2
      obtain ⟨a', ha', hrd⟩ := hr hp
      simp only [Value.slice.injEq] at he
      exact ⟨a', he.1.trans ha', hrd.o⟩
    cases b1
  all_goals
    refine RetVC.freeze (i := 0) (fun _ hb => hb) rfl fun W5 l5 hfr => ?_
    refine ret_plain rfl fun W6 l6 => ⟨_, rfl, ?_⟩
    have h7 := SlRead.mono hfr l6
    refine slR (A := A4) (c := c4) h7 ?_ ?_
    · show 0 + E1.length + E2.length = _; rw [List.length_append, Nat.zero_add]
    · show ([] ++ (E1.map deC).flatten) ++ (E2.map deC).flatten = _; rw [List.map_append, List.flatten_append, List.nil_append]

structure LfSt where
  i : Nat
  n : Nat
  A : Option Addr
  c : Nat
  es : List DE
  ok : Bool
theorem leafD_step {l : List NameD} {f : Nat} {ab : Bool} {thn : List UInt8} {ts : List TypS} {i : Nat} {t : TypS} (h : ts[i]? = some t) : leafD l f ab thn (ts.take (i + 1)) = leafD l f ab thn (ts.take i) ++ (if t.space = [] then [] else [⟨f, findD l t.space (keyT thn t), ab⟩]) := by
  unfold leafD
  rw [setsS_take h, List.map_append]
  congr 1
  by_cases e : t.space = [] <;> simp [e]
theorem leafD_le (l : List NameD) (f : Nat) (ab : Bool) (thn : List UInt8) (ts : List TypS) (i : Nat) : (leafD l f ab thn (ts.take i)).length ≤ i := by
  unfold leafD
  rw [List.length_map]
  exact Nat.le_trans (setsS_le _) (by rw [List.length_take]; omega)
theorem okD_snoc (es : List DE) (e : DE) : okD (es ++ [e]) = (okD es && decide (0 ≤ e.t)) := by unfold okD; rw [List.all_append, List.all_cons, List.all_nil, Bool.and_true]
theorem name_types {l : List NameD} {z : Int} {pc : Addr} {c : Nat} {W : PW} (hz : 0 ≤ z ∧ z < l.length) (hu : RL nameR 4 W (.slice (some pc) l.length c) l) :
    ∃ y, l[z.toNat]? = some y ∧ ∃ ya yc, RP typC W (.slice ya y.2.types.length yc) y.2.types ∧ Rd W (((pc.add (z.toNat * 4)).add 1).add 1) (.slice ya y.2.types.length yc) := by
  obtain ⟨pc2, e, y, cs, hy, _, ⟨tv, nv, hcs, hT, hN⟩, hall, _⟩ := hu.at nameR.mono (PW.Le.refl _) (j := z) hz
  obtain rfl : pc = pc2 := Option.some.inj e
  subst hcs
  obtain ⟨ta, tc, rfl, _, _⟩ := hT.form
  exact ⟨y, hy, ta, tc, hT, by rw [Addr.add_add]; exact hall 2 _ rfl⟩
set_option maxRecDepth 20000 in
set_option maxHeartbeats 16000000 in
theorem walk_leaf (t : Tr) (ht : t = .this ∨ ∃ w v, t = .arrow w v ∧ v ≠ []) : WalkC t := by
  intro l f x m ab u W hx ha hb hl hu
  obtain ⟨pc, c, rfl, ta, tc, pn, nc, hT, h0, h1, h2, hi, hrds⟩ := walk_pre hx ha hu
  have hf : f < l.length := (List.getElem?_eq_some_iff.1 hx).1
  have hmax : (10000000 : Nat) ≤ maxLen := by decide
  have hsp : spAt l f = x.1 := by unfold spAt; rw [hx]; rfl
  have hty : typesAt l f = x.2.types := by unfold typesAt; rw [hx]; rfl
  refine pureNX hmix Tryz.func50 r50 (by kernel_rfl) [nilO 119 3] rfl [.slice (some pc) l.length c, .int .i64 f, .int .i64 (((m + t.size : Nat) : Int) - 1), .bool ab] rfl ?_
  obtain ⟨at_, hat⟩ : ∃ z, ((m + t.size : Nat) : Int) - 1 = z := ⟨_, rfl⟩
  rw [hat] at hi hrds ⊢
  refine vc_assoc (vc_assoc (vc_assoc (vc_assoc (vc_assoc (vc_assoc (vc_cut (fun f' S' => ∃ (ts : List TypS) (thn : List UInt8) (tA : Option Addr) (tC : Nat) (σ : List (List PV)) (W2 : PW), S' = ⟨σ, [nilO 119 3], W2⟩ ∧ allVals σ = true ∧ W.Le W2 ∧ ts.length ≤ 1000 ∧ RP typC W2 (.slice tA ts.length tC) ts ∧ walkT l f t ab = leafR l f ab thn ts ∧ AllSl f' [(0, .v (.slice (some pc) l.length c)), (1, .v (.int .i64 f)), (3, .v (.bool ab)), (10, .v (.slice none 0 0)), (17, .v (.slice tA ts.length tC)), (18, .v (strV thn))]) ?_ ?_))))))
  · rcases ht with rfl | ⟨w, v, rfl, hv⟩
    · have hrds : Rds W (pn.add (at_.toNat * 5)) [.int .i64 1, strV [], strV [], .int .i64 0, .int .i64 0] := hrds
      refine ⟨⟨by omega, by omega⟩, pc, rfl, .slice (some pn) x.2.nodes.length nc, h2.o, hi, pn, rfl, [.int .i64 1, strV [], strV [], .int .i64 0, .int .i64 0], rfl, hrds.o, ?_⟩
      refine ⟨rfl, rfl, rfl, rfl, ⟨by omega, by omega⟩, pc, rfl, .slice ta x.2.types.length tc, h1.o, ?_⟩
      exact ⟨rfl, x.2.types, [], ta, tc, _, W, rfl, rfl, PW.Le.refl _, (hb x (List.mem_of_getElem? hx)).1, hT, by show leafR l f ab [] (typesAt l f) = _; rw [hty], ⟨rfl, rfl, rfl, rfl, rfl, rfl, trivial⟩⟩
    · have hrds : Rds W (pn.add (at_.toNat * 5)) [.int .i64 3, strV w, strV v, .int .i64 0, .int .i64 0] := hrds
      refine ⟨⟨by omega, by omega⟩, pc, rfl, .slice (some pn) x.2.nodes.length nc, h2.o, hi, pn, rfl, [.int .i64 3, strV w, strV v, .int .i64 0, .int .i64 0], rfl, hrds.o, ?_⟩
      refine ⟨rfl, rfl, rfl, rfl, ⟨by omega, by omega⟩, pc, rfl, .slice ta x.2.types.length tc, h1.o, ?_⟩
      refine ⟨rfl, ⟨by omega, by omega⟩, pc, rfl, strV x.1, h0.o, ?_⟩
      refine call_v rfl (fun W' lw => findd_x l x.1 w _ W' hl (hu.mono nameR.mono lw)) (fun W1 v1 W2 l1 l2 hv1 => ?_)
      obtain ⟨z, hz, rfl⟩ : ∃ z, findD l x.1 w = z ∧ v1 = .int .i64 z := ⟨_, rfl, hv1⟩
      have hwk : walkT l f (.arrow w v) ab = if z < 0 then ([], false) else leafR l f ab v (typesAt l z.toNat) := by
        show (if findD l (spAt l f) w < 0 then (([], false) : List DE × Bool) else leafR l f ab v (typesAt l (findD l (spAt l f) w).toNat)) = _
        rw [hsp, hz]
      refine ⟨rfl, ?_⟩
      apply br_split
      · intro h
        have h : z < 0 := h
        rw [if_pos h] at hwk
        exact ret_plain rfl fun W' _ => by rw [hwk]; exact ⟨_, rfl, SlRead.nil W' _⟩
      · intro h
        have h : ¬ z < 0 := h
        rw [if_neg h] at hwk
        have hzl : 0 ≤ z ∧ z < l.length := by
          rcases findD_in l x.1 w with e | ⟨i, y, e, hy, _⟩
          · omega
          · have := (List.getElem?_eq_some_iff.1 hy).1
            omega
        have l12 := l1.trans l2
        obtain ⟨y, hy, ya, yc, hY, hrY⟩ := name_types hzl (hu.mono nameR.mono l12)
        have hty2 : typesAt l z.toNat = y.2.types := by unfold typesAt; rw [hy]; rfl
        rw [hty2] at hwk
        refine ⟨hzl, pc, rfl, .slice ya y.2.types.length yc, hrY.o, ?_⟩
        exact ⟨y.2.types, v, ya, yc, _, W2, rfl, rfl, l12, (hb y (List.mem_of_getElem? hy)).1, hY, hwk, ⟨rfl, rfl, rfl, rfl, rfl, rfl, trivial⟩⟩
  rintro f' S' ⟨ts, thn, tA, tC, σ, W2, rfl, hσ, l02, hts, hT2, hw, hfr⟩
  refine vc_at _ hfr ?_
  clear hfr hT h0 h1 h2 hrds
  refine ⟨LfSt, fun t => [(20, .v (.bool t.ok)), (10, .v (.slice t.A t.n t.c)), (21, .v (.int .i64 t.i))], fun _ => σ, fun t => [edO t.A t.n t.c t.es], fun t _ => t.i ≤ ts.length ∧ t.n = t.es.length ∧ t.es = leafD l f ab thn (ts.take t.i) ∧ t.ok = okD t.es, fun t => ts.length - t.i, ⟨0, 0, none, 0, [], true⟩,
    all_sl ⟨rfl, rfl, rfl, trivial⟩, rfl, ole_refl _, ⟨Nat.zero_le _, rfl, rfl, rfl⟩, loopOK (fun _ => ⟨⟨trivial, rfl⟩, ⟨trivial, rfl⟩, ⟨trivial, rfl⟩, trivial⟩) (fun _ => rfl) (fun _ => hσ), ?_⟩
  rintro ⟨i, n, A, d, es, ok⟩ W3 l3 ⟨hi2, hn, hes, hok⟩ fr
  dsimp only at hi2 hn hes hok
  have hni : n ≤ i := by rw [hn, hes]; exact leafD_le l f ab thn ts i
  refine ⟨rfl, ?_⟩
  apply br_split
  · intro hq
    have hq : (i : Int) < ts.length := hq
    have inc := (i64_in ((i : Int) + 1) ⟨by omega, by omega⟩).symm
    obtain ⟨ta2, rfl, tx, hx2, _, _, hr⟩ := RP.at (f := typC) (sz := 2) (fun _ => rfl) hT2 l3 (j := (i : Int)) ⟨by omega, by omega⟩
    have hx2 : ts[i]? = some tx := hx2
    have hnext := leafD_step (l := l) (f := f) (ab := ab) (thn := thn) hx2
    obtain ⟨xs, xr⟩ := tx
    refine ⟨⟨by omega, hq⟩, ta2, rfl, strV xs, (hr 0 _ rfl).o, ?_⟩
    apply br_split
    · intro hs
      have hs : xs = [] := hs
      rw [if_pos (show (TypS.mk xs xr).space = [] from hs), List.append_nil] at hnext
      exact ⟨rfl, _, inc, ⟨i + 1, n, A, d, es, ok⟩, all_sl ⟨rfl, rfl, rfl, trivial⟩, List.take_length, ole_refl _, ⟨by dsimp only; omega, hn, by dsimp only; rw [hnext]; exact hes, hok⟩, by dsimp only; omega⟩
    · intro hs
      have hs : ¬ xs = [] := hs
      rw [if_neg (show ¬ (TypS.mk xs xr).space = [] from hs)] at hnext
      refine ⟨⟨by omega, hq⟩, ta2, rfl, strV xr, (hr 1 _ rfl).o, ?_⟩
      apply br_nsplit
      case' h1 =>
        intro ht
        have hk : keyT thn ⟨xs, xr⟩ = thn := if_neg ht
      case' h2 =>
        intro ht
        have hk : keyT thn ⟨xs, xr⟩ = xr := if_pos ht
      all_goals
        refine ⟨⟨by omega, hq⟩, ta2, rfl, strV xs, (hr 0 _ rfl).o, ?_⟩
        refine call_v rfl (fun W' lw => findd_x l xs _ _ W' hl (hu.mono nameR.mono (l02.trans (l3.trans lw)))) (fun W4 v4 W5 l4 l5 hv4 => ?_)
        obtain ⟨z, hz, rfl⟩ : ∃ z, findD l xs (keyT thn ⟨xs, xr⟩) = z ∧ v4 = .int .i64 z := ⟨_, rfl, by rw [hk]; exact hv4⟩
        rw [hz] at hnext
        cases ok
      case' h1.true => refine ⟨rfl, ?_⟩
      case' h2.true => refine ⟨rfl, ?_⟩
      all_goals
        refine ⟨rfl, .inl ?_⟩
        intro bd Wd ld hrd
        refine ⟨0, _, [.int .i64 f, .int .i64 z, .bool ab], rfl, rfl, rfl, rfl, rfl, deC_one ⟨f, z, ab⟩, fun _ => ⟨_, rfl, hrd.o⟩, by show n + 1 ≤ maxLen; omega, by show (n + 1) * 24 ≤ 140737488355328; omega, rfl, @fun Ae ce _ => ?_⟩
        refine ⟨rfl, _, inc, ⟨i + 1, n + 1, Ae, ce, es ++ [⟨f, z, ab⟩], _⟩, all_sl ⟨rfl, rfl, rfl, trivial⟩, List.take_length, ole_eq ?_, ⟨by dsimp only; omega, by dsimp only; rw [List.length_append, ← hn]; rfl, by dsimp only; rw [hnext, hes], ?_⟩, by dsimp only; omega⟩
        · have e : ((es ++ [(⟨f, z, ab⟩ : DE)]).map deC).flatten = (es.map deC).flatten ++ [.int .i64 f, .int .i64 z, .bool ab] := by rw [List.map_append, List.flatten_append, List.map_singleton, List.flatten_singleton]; rfl
          unfold edO
          dsimp only
          rw [e]
          rfl
        show _ = okD (es ++ [⟨f, z, ab⟩])
        rw [okD_snoc, ← hok]
        first | rfl | (rw [Bool.true_and]; rfl) | (rw [Bool.false_and]; rfl)
  · intro hq
    have hq : ¬ (i : Int) < ts.length := hq
    have ei : i = ts.length := by omega
    rw [ei, List.take_length] at hes
    have hw2 : walkT l f t ab = (es, ok && (decide (thn = []) || !decide (es = []))) := by
      rw [hw]
      unfold leafR
      rw [← hes, ← hok]
    have h0n : ¬ n = 0 ↔ ¬ es = [] := by rw [hn, ← List.length_eq_zero_iff]
    cases ok
    case' true =>
      apply br_split
      case' h1 =>
        intro ht
        have ht : thn = [] := ht
        have hb2 : (true && (decide (thn = []) || !decide (es = []))) = true := by rw [decide_eq_true ht]; rfl
      case' h2 =>
        intro ht
        have ht : ¬ thn = [] := ht
        have hb2 : (true && (decide (thn = []) || !decide (es = []))) = decide ((n : Int) > 0) := by
          rw [decide_eq_false ht, Bool.true_and, Bool.false_or, Bool.eq_iff_iff, decide_eq_true_eq, Bool.not_eq_true', decide_eq_false_iff_not, ← h0n]
          omega
        refine ⟨rfl, ?_⟩
    case' false =>
      have hb2 : (false && (decide (thn = []) || !decide (es = []))) = false := rfl
    all_goals
      rw [hb2] at hw2
      refine RetVC.freeze (i := 0) (fun _ hb => hb) rfl fun W6 l6 hfrz => ?_
      refine ret_plain rfl fun W7 l7 => ?_
      rw [hw2]
      exact ⟨_, rfl, slR (SlRead.mono hfrz l7) hn rfl⟩
theorem walk_all : ∀ t : Tr, t.ok → WalkC t
  | .this, _ => walk_leaf _ (.inl rfl)
  | .rel w, _ => walk_rel w
  | .arrow w v, h => walk_leaf _ (.inr ⟨w, v, rfl, by rintro rfl; exact absurd h.2 (by decide)⟩)
  | .op k a b, h => walk_op k a b h.1 (walk_all a h.2.1) (walk_all b h.2.2)
end Go.Proofs.YtcgbcbdgjhnlaaaGreat

/- Layer 18 (strata), plain: the edges that the document finds are those that the program finds. No program here. -/
namespace Go.Proofs.YtcgbcbdgjhnlaaaGreat

structure GoodR (r : RelS) : Prop where
  name : wordS r.name = true
  types : ∀ t ∈ r.types, typOK t = true
  tn : r.types.length ≤ 8
  nn : r.nodes.length ≤ 64
  d0 : ¬ deepN r.nodes = 0
  d16 : deepN r.nodes ≤ 16
structure GoodS (s : SpaceS) : Prop where
  name : wordS s.name = true
  n : s.rels.length ≤ 16
  rels : ∀ r ∈ s.rels, GoodR r
structure GoodC (c : ConfS) : Prop where
  n : c.spaces.length ≤ 16
  m : c.scopes.length ≤ 16
  sp : ∀ s ∈ c.spaces, GoodS s
  sc : ∀ s ∈ c.scopes, scOK s = true
theorem anyF_no {α : Type} {q : α → Bool} {l : List α} (h : l.any q = false) : ∀ x ∈ l, q x = false := fun x hx => by
  rw [List.any_eq_false] at h
  exact Bool.eq_false_iff.2 (h x hx)
theorem right_good {c : ConfS} (h : rightN c = true) : GoodC c := by
  unfold rightN withinN at h
  simp only [Bool.and_eq_true, Bool.not_eq_true', decide_eq_false_iff_not, List.all_eq_true] at h
  obtain ⟨⟨⟨h1, h2⟩, h3⟩, h4, h5⟩ := h
  refine ⟨by omega, by omega, fun s hs => ?_, h5⟩
  have a := h3 s hs
  have b := h4 s hs
  unfold fewS at a
  unfold spOK at b
  simp only [Bool.not_eq_true', Bool.or_eq_false_iff, decide_eq_false_iff_not] at a
  simp only [Bool.and_eq_true, List.all_eq_true] at b
  refine ⟨b.1, by omega, fun r hr => ?_⟩
  have d := anyF_no a.2 r hr
  have e := b.2 r hr
  unfold muchN at d
  unfold relOK at e
  simp only [Bool.or_eq_false_iff, decide_eq_false_iff_not] at d
  simp only [Bool.and_eq_true, Bool.not_eq_true', decide_eq_false_iff_not, List.all_eq_true] at e
  exact ⟨e.1, e.2.2, by omega, by omega, e.2.1, by omega⟩

/-- Lists of nodes that are right are trees'. -/
def TreeF (T : List NodeS → Tr) : Prop := ∀ l : List NodeS, ¬ deepN l = 0 → (T l).ok ∧ l = layN 0 (T l) ∧ deepN l = (T l).dep
theorem treeF : ∃ T : List NodeS → Tr, TreeF T := by
  have h : ∀ l : List NodeS, ∃ t : Tr, ¬ deepN l = 0 → t.ok ∧ l = layN 0 t ∧ deepN l = t.dep := fun l => by
    by_cases h : deepN l = 0
    · exact ⟨.this, fun h' => absurd h h'⟩
    · obtain ⟨t, h1⟩ := deep_lay h
      exact ⟨t, fun _ => h1⟩
  exact ⟨fun l => Classical.choose (h l), fun l => Classical.choose_spec (h l)⟩
theorem GoodR.tree {T : List NodeS → Tr} (hT : TreeF T) {r : RelS} (h : GoodR r) : (T r.nodes).ok ∧ r.nodes = layN 0 (T r.nodes) ∧ (T r.nodes).size ≤ 64 ∧ (T r.nodes).dep ≤ 16 := by
  obtain ⟨h1, h2, h3⟩ := hT r.nodes h.d0
  have h4 := h.nn
  have h5 := h.d16
  rw [h2, layN_len] at h4
  exact ⟨h1, h2, h4, by omega⟩

def toD (c : ConfS) (e : EdgeS) : DE := ⟨ixS c e.fs, ixS c e.ts, e.ab⟩
/-- What the program answers, and what the document answers. -/
def SimE (c : ConfS) (o : Option (List EdgeS)) (p : List DE × Bool) : Prop := (∃ es, o = some es ∧ p.2 = true ∧ es.map (toD c) = p.1) ∨ (o = none ∧ p.2 = false)
def appE (o q : Option (List EdgeS)) : Option (List EdgeS) := match o, q with | some a, some b => some (a ++ b) | _, _ => none
def appD (p q : List DE × Bool) : List DE × Bool := (p.1 ++ q.1, p.2 && q.2)
theorem SimE.app {c : ConfS} {o q : Option (List EdgeS)} {p r : List DE × Bool} (h1 : SimE c o p) (h2 : SimE c q r) : SimE c (appE o q) (appD p r) := by
  rcases h1 with ⟨a, rfl, h3, h4⟩ | ⟨rfl, h3⟩
  · rcases h2 with ⟨b, rfl, h5, h6⟩ | ⟨rfl, h5⟩
    · exact .inl ⟨a ++ b, rfl, by unfold appD; rw [h3, h5]; rfl, by unfold appD; rw [List.map_append, h4, h6]⟩
    · exact .inr ⟨rfl, by unfold appD; rw [h5, Bool.and_false]⟩
  · exact .inr ⟨by cases q <;> rfl, by unfold appD; rw [h3, Bool.false_and]⟩
theorem appE_nil (o : Option (List EdgeS)) : appE o (some []) = o := by
  cases o with
  | none => rfl
  | some a => show some (a ++ []) = _; rw [List.append_nil]
theorem appE_assoc (o p q : Option (List EdgeS)) : appE (appE o p) q = appE o (appE p q) := by
  cases o <;> cases p <;> cases q <;> simp [appE]
theorem nil_appE (o : Option (List EdgeS)) : appE (some []) o = o := by cases o <;> rfl
theorem findUp_is (c : ConfS) (l : List TypS) : ∀ i : Nat, i ≤ l.length → (∃ ss, findUp c l i = some ss ∧ ((l.take i).map fun t => findD (allD c) t.space t.rel) = ss.map fun s => (ixS c s : Int)) ∨ (findUp c l i = none ∧ ∃ t ∈ l.take i, findD (allD c) t.space t.rel = -1)
  | 0, _ => .inl ⟨[], rfl, rfl⟩
  | i + 1, hi => by
    have ht : l[i]? = some l[i] := List.getElem?_eq_getElem hi
    rw [List.take_add_one, ht, Option.toList_some]
    simp only [findUp, ht]
    rcases findUp_is c l i (by omega) with ⟨ss, h1, h2⟩ | ⟨h1, t, h2, h3⟩
    · rw [h1]
      dsimp only
      cases hf : findS c l[i] with
      | none => exact .inr ⟨rfl, l[i], List.mem_append_right _ (List.mem_singleton.2 rfl), findS_no hf⟩
      | some s => exact .inl ⟨_, rfl, by rw [List.map_append, List.map_append, h2, List.map_singleton, List.map_singleton, findS_ok hf]⟩
    · rw [h1]; exact .inr ⟨rfl, t, List.mem_append_left _ h2, h3⟩
theorem findAll_is (c : ConfS) (l : List TypS) : (∃ ss, findAll c l = some ss ∧ (l.map fun t => findD (allD c) t.space t.rel) = ss.map fun s => (ixS c s : Int)) ∨ (findAll c l = none ∧ ∃ t ∈ l, findD (allD c) t.space t.rel = -1) := by
  have h := findUp_is c l l.length (Nat.le_refl _)
  rw [List.take_length] at h
  exact h
theorem leaf_sim (c : ConfS) (s : Spot) (ab : Bool) (tl : List TypS) {es : List DE} (he : es = tl.map fun t => ⟨ixS c s, findD (allD c) t.space t.rel, ab⟩) :
    SimE c ((findAll c tl).map fun ss => ss.map fun t => ⟨s, t, ab⟩) (es, okD es) := by
  rcases findAll_is c tl with ⟨ss, h1, h2⟩ | ⟨h1, t, h2, h3⟩
  · have he2 : es = ss.map fun t => ⟨ixS c s, ixS c t, ab⟩ := by
      have e1 : es = (tl.map fun t => findD (allD c) t.space t.rel).map fun z => ⟨ixS c s, z, ab⟩ := by rw [he, List.map_map]; rfl
      rw [e1, h2, List.map_map]; rfl
    refine .inl ⟨_, by rw [h1]; rfl, ?_, by rw [List.map_map, he2]; rfl⟩
    show okD es = true
    rw [he2]
    unfold okD
    rw [List.all_eq_true]
    intro e hm
    obtain ⟨t, _, rfl⟩ := List.mem_map.1 hm
    rw [decide_eq_true_eq]
    exact Int.natCast_nonneg _
  · refine .inr ⟨by rw [h1]; rfl, ?_⟩
    show okD es = false
    rw [he]
    unfold okD
    refine all_no (x := ⟨ixS c s, findD (allD c) t.space t.rel, ab⟩) (List.mem_map.2 ⟨t, h2, rfl⟩) ?_
    show decide (0 ≤ findD (allD c) t.space t.rel) = false
    rw [h3]; rfl
def nodeE (c : ConfS) (s : Spot) (r : RelS) (n : NodeS) (ab : Bool) : Option (List EdgeS) := (namedS c s r n).map fun l => l.map fun t => ⟨s, t, ab⟩
theorem edgesUp_step {c : ConfS} {s : Spot} {r : RelS} {i : Nat} {n : NodeS} (h : r.nodes[i]? = some n) {ab : Bool} (hab : (absS r.nodes).getD i false = ab) : edgesUp c s r (i + 1) = appE (edgesUp c s r i) (nodeE c s r n ab) := by
  simp only [edgesUp, h, hab, nodeE]
  cases edgesUp c s r i with
  | none => rfl
  | some out => dsimp only; cases namedS c s r n <;> rfl
theorem types_ix {c : ConfS} {s : Spot} {r : RelS} (h : relAt c s = some r) : typesAt (allD c) (ixS c s) = r.types := by unfold typesAt; rw [rel_ix h]; rfl
theorem sp_ix {c : ConfS} {s : Spot} {r : RelS} (h : relAt c s = some r) : spAt (allD c) (ixS c s) = nameAt c s.1 := by unfold spAt; rw [rel_ix h]; rfl
theorem this_sim {c : ConfS} {s : Spot} {r : RelS} (h : relAt c s = some r) (m : Nat) (ab : Bool) : SimE c (nodeE c s r (rootT m .this) ab) (walkT (allD c) (ixS c s) .this ab) := by
  have e1 : namedS c s r (rootT m .this) = findAll c (setsS r.types) := rfl
  have e2 : walkT (allD c) (ixS c s) .this ab = (leafD (allD c) (ixS c s) ab [] r.types, okD (leafD (allD c) (ixS c s) ab [] r.types)) := by
    show leafR (allD c) (ixS c s) ab [] (typesAt (allD c) (ixS c s)) = _
    rw [types_ix h]
    unfold leafR
    rw [decide_eq_true (p := ([] : List UInt8) = []) rfl, Bool.true_or, Bool.and_true]
  rw [e2]
  unfold nodeE
  rw [e1]
  exact leaf_sim c s ab (setsS r.types) rfl
theorem rel_sim {c : ConfS} {s : Spot} {r : RelS} (h : relAt c s = some r) (m : Nat) (ab : Bool) (w : List UInt8) : SimE c (nodeE c s r (rootT m (.rel w)) ab) (walkT (allD c) (ixS c s) (.rel w) ab) := by
  have e1 : namedS c s r (rootT m (.rel w)) = findAll c [⟨nameAt c s.1, w⟩] := rfl
  have e2 : walkT (allD c) (ixS c s) (.rel w) ab = ([⟨ixS c s, findD (allD c) (nameAt c s.1) w, ab⟩], okD [⟨ixS c s, findD (allD c) (nameAt c s.1) w, ab⟩]) := by
    show (([⟨ixS c s, findD (allD c) (spAt (allD c) (ixS c s)) w, ab⟩], decide (0 ≤ findD (allD c) (spAt (allD c) (ixS c s)) w)) : List DE × Bool) = _
    rw [sp_ix h]
    unfold okD
    rw [List.all_cons, List.all_nil, Bool.and_true]
  rw [e2]
  unfold nodeE
  rw [e1]
  exact leaf_sim c s ab [⟨nameAt c s.1, w⟩] rfl
theorem leafD_arrow (l : List NameD) (f : Nat) (ab : Bool) {v : List UInt8} (hv : v ≠ []) (q : RelS) : leafD l f ab v q.types = (arrowT q v).map fun t => ⟨f, findD l t.space t.rel, ab⟩ := by
  unfold leafD arrowT
  rw [List.map_map]
  refine List.map_congr_left fun t _ => ?_
  show (⟨f, findD l t.space (keyT v t), ab⟩ : DE) = ⟨f, findD l t.space v, ab⟩
  unfold keyT
  rw [if_neg hv]
theorem arrow_sim {c : ConfS} {s : Spot} {r : RelS} (h : relAt c s = some r) (m : Nat) (ab : Bool) (w : List UInt8) {v : List UInt8} (hv : v ≠ []) : SimE c (nodeE c s r (rootT m (.arrow w v)) ab) (walkT (allD c) (ixS c s) (.arrow w v) ab) := by
  have e1 : namedT c s r (rootT m (.arrow w v)) = match findS c ⟨nameAt c s.1, w⟩ with
    | none => none
    | some p => match relAt c p with | none => none | some q => if arrowT q v = [] then none else some (arrowT q v) := rfl
  have e2 : walkT (allD c) (ixS c s) (.arrow w v) ab = if findD (allD c) (nameAt c s.1) w < 0 then ([], false) else leafR (allD c) (ixS c s) ab v (typesAt (allD c) (findD (allD c) (nameAt c s.1) w).toNat) := by
    show (if findD (allD c) (spAt (allD c) (ixS c s)) w < 0 then (([], false) : List DE × Bool) else leafR (allD c) (ixS c s) ab v (typesAt (allD c) (findD (allD c) (spAt (allD c) (ixS c s)) w).toNat)) = _
    rw [sp_ix h]
  rw [e2]
  unfold nodeE namedS
  rw [e1]
  cases hf : findS c ⟨nameAt c s.1, w⟩ with
  | none =>
    have := findS_no hf
    dsimp only at this ⊢
    rw [this, if_pos (by decide)]
    exact .inr ⟨rfl, rfl⟩
  | some p =>
    have := findS_ok hf
    obtain ⟨q, hq⟩ := findS_rel hf
    dsimp only at this ⊢
    rw [this, hq, if_neg (by omega), Int.toNat_natCast, types_ix hq]
    dsimp only
    unfold leafR
    rw [leafD_arrow _ _ _ hv]
    by_cases hn : arrowT q v = []
    · rw [if_pos hn, hn]
      refine .inr ⟨rfl, ?_⟩
      show (okD [] && (decide (v = []) || !decide (([] : List DE) = []))) = false
      rw [decide_eq_false hv]; rfl
    · rw [if_neg hn]
      have hne : ¬ (arrowT q v).map (fun t => (⟨ixS c s, findD (allD c) t.space t.rel, ab⟩ : DE)) = [] := fun e => hn (List.map_eq_nil_iff.1 e)
      rw [decide_eq_false (p := (arrowT q v).map (fun t => (⟨ixS c s, findD (allD c) t.space t.rel, ab⟩ : DE)) = []) hne]
      rw [Bool.not_false, Bool.or_true, Bool.and_true]
      exact leaf_sim c s ab (arrowT q v) rfl
theorem word_nil {w : List UInt8} (h : wordS w = true) : w ≠ [] := by rintro rfl; revert h; decide
theorem walk_sim {c : ConfS} {s : Spot} {r : RelS} (h : relAt c s = some r) : ∀ (t : Tr) (m : Nat) (ab : Bool), t.ok → AtT r.nodes m t → (∀ j, j < t.size → (absS r.nodes).getD (m + j) false = (flagsT t ab).getD j false) →
    ∃ o, edgesUp c s r (m + t.size) = appE (edgesUp c s r m) o ∧ SimE c o (walkT (allD c) (ixS c s) t ab)
  | .this, m, ab, _, ha, hf => ⟨_, edgesUp_step (n := rootT m .this) ha.root (hf 0 Nat.zero_lt_one), this_sim h m ab⟩
  | .rel w, m, ab, _, ha, hf => ⟨_, edgesUp_step (n := rootT m (.rel w)) ha.root (hf 0 Nat.zero_lt_one), rel_sim h m ab w⟩
  | .arrow w v, m, ab, hok, ha, hf => ⟨_, edgesUp_step (n := rootT m (.arrow w v)) ha.root (hf 0 Nat.zero_lt_one), arrow_sim h m ab w (word_nil hok.2)⟩
  | .op k a b, m, ab, hok, ha, hf => by
    obtain ⟨hk, hoa, hob⟩ := hok
    have hsz : (Tr.op k a b).size = a.size + b.size + 1 := rfl
    have pa := a.size_pos
    have pb := b.size_pos
    have hfl : flagsT (.op k a b) ab = flagsT a ab ++ (flagsT b (ab || decide (k = 6)) ++ [ab]) := by simp only [flagsT, List.append_assoc]
    rw [hfl] at hf
    obtain ⟨o1, h1, s1⟩ := walk_sim h a m ab hoa ha.left fun j hj => by
      rw [hf j (by omega), List.getD_eq_getElem?_getD, List.getD_eq_getElem?_getD, List.getElem?_append_left (by rw [flagsT_len]; exact hj)]
    obtain ⟨o2, h2, s2⟩ := walk_sim h b (m + a.size) (ab || decide (k = 6)) hob ha.right fun j hj => by
      rw [Nat.add_assoc, hf (a.size + j) (by omega), List.getD_eq_getElem?_getD, List.getD_eq_getElem?_getD, List.getElem?_append_right (by rw [flagsT_len]; omega), flagsT_len, Nat.add_sub_cancel_left, List.getElem?_append_left (by rw [flagsT_len]; exact hj)]
    have hroot := ha.root
    rw [hsz, show m + (a.size + b.size + 1) - 1 = m + a.size + b.size by omega] at hroot
    have e3 : nodeE c s r (rootT m (.op k a b)) ((absS r.nodes).getD (m + a.size + b.size) false) = some [] := by
      have : namedT c s r (rootT m (.op k a b)) = some [] := by
        rcases hk with rfl | rfl | rfl <;> rfl
      unfold nodeE namedS
      rw [this]; rfl
    refine ⟨appE o1 o2, ?_, s1.app s2⟩
    rw [hsz, show m + (a.size + b.size + 1) = m + a.size + b.size + 1 by omega, edgesUp_step hroot rfl, e3, appE_nil, h2, h1, appE_assoc]
def tyOK (l : List NameD) (r : RelS) : Bool := r.types.all fun t => decide (t.space = []) || decide (0 ≤ findD l t.space t.rel)
theorem tyOK_is (c : ConfS) (r : RelS) : tyOK (allD c) r = (findAll c (setsS r.types)).isSome := by
  rcases findAll_is c (setsS r.types) with ⟨ss, h1, h2⟩ | ⟨h1, t, h2, h3⟩
  · rw [h1]
    unfold tyOK
    show _ = true
    rw [List.all_eq_true]
    intro t ht
    by_cases hs : t.space = []
    · rw [decide_eq_true hs, Bool.true_or]
    · have hm : findD (allD c) t.space t.rel ∈ (setsS r.types).map fun t => findD (allD c) t.space t.rel := List.mem_map.2 ⟨t, by unfold setsS; rw [List.mem_filter]; exact ⟨ht, by rw [decide_eq_false hs]; rfl⟩, rfl⟩
      rw [h2] at hm
      obtain ⟨q, _, hq⟩ := List.mem_map.1 hm
      rw [← hq, decide_eq_true (p := (0 : Int) ≤ (ixS c q : Nat)) (Int.natCast_nonneg _), Bool.or_true]
  · rw [h1]
    unfold tyOK
    unfold setsS at h2
    rw [List.mem_filter] at h2
    refine all_no h2.1 ?_
    have hs : ¬ t.space = [] := by have := h2.2; simpa using this
    rw [decide_eq_false hs, h3]; rfl
theorem one_sim {c : ConfS} {s : Spot} {r : RelS} (h : relAt c s = some r) {t : Tr} (hok : t.ok) (hl : r.nodes = layN 0 t) : SimE c (edgesS c s) ((walkT (allD c) (ixS c s) t false).1, tyOK (allD c) r && (walkT (allD c) (ixS c s) t false).2) := by
  have hlen : r.nodes.length = t.size := by rw [hl, layN_len]
  obtain ⟨o, h1, h2⟩ := walk_sim h t 0 false hok ⟨[], [], by rw [List.nil_append, List.append_nil]; exact hl, rfl⟩ fun j _ => by rw [abs_is hok hl, Nat.zero_add]
  have h1 : edgesUp c s r (0 + t.size) = appE (some []) o := h1
  rw [Nat.zero_add, ← hlen, nil_appE] at h1
  rw [tyOK_is]
  unfold edgesS
  rw [h]
  dsimp only
  cases findAll c (setsS r.types) with
  | none => exact .inr ⟨rfl, rfl⟩
  | some ss =>
    show SimE c (edgesUp c s r r.nodes.length) _
    rw [h1]
    exact h2

def upD (T : List NodeS → Tr) (l : List NameD) : Nat → List DE × Bool
  | 0 => ([], true)
  | i + 1 => match l[i]? with
    | some x => appD (upD T l i) ((walkT l i (T x.2.nodes) false).1, tyOK l x.2 && (walkT l i (T x.2.nodes) false).2)
    | none => upD T l i
def scOKD (l : List NameD) (s : ScopeS) : Bool := decide (0 ≤ findD l s.object.space s.rel)
def edgesD (T : List NodeS → Tr) (c : ConfS) : List DE × Bool := ((upD T (allD c) (allD c).length).1, (upD T (allD c) (allD c).length).2 && c.scopes.all (scOKD (allD c)))
theorem rels_sim {T : List NodeS → Tr} (hT : TreeF T) {c : ConfS} (hg : GoodC c) {i : Nat} {sp : SpaceS} (hi : c.spaces[i]? = some sp) {o : Option (List EdgeS)} (ho : SimE c o (upD T (allD c) (allP (c.spaces.take i)).length)) :
    ∀ k : Nat, k ≤ sp.rels.length → SimE c (appE o (relsUp c i k)) (upD T (allD c) ((allP (c.spaces.take i)).length + k))
  | 0, _ => by show SimE c (appE o (some [])) _; rw [appE_nil]; exact ho
  | k + 1, hk => by
    have hr : relAt c (i, k) = some sp.rels[k] := by unfold relAt; rw [hi]; exact List.getElem?_eq_getElem hk
    have hgr := (hg.sp sp (List.mem_of_getElem? hi)).rels _ (List.getElem_mem hk)
    obtain ⟨t1, t2, _⟩ := hgr.tree hT
    have h1 := one_sim hr t1 t2
    have hx := rel_ix hr
    have e1 : ixS c (i, k) = (allP (c.spaces.take i)).length + k := rfl
    rw [e1] at h1 hx
    have e2 : relsUp c i (k + 1) = appE (relsUp c i k) (edgesS c (i, k)) := by
      simp only [relsUp]
      cases relsUp c i k <;> cases edgesS c (i, k) <;> rfl
    have e3 : upD T (allD c) ((allP (c.spaces.take i)).length + (k + 1)) = appD (upD T (allD c) ((allP (c.spaces.take i)).length + k)) ((walkT (allD c) ((allP (c.spaces.take i)).length + k) (T sp.rels[k].nodes) false).1, tyOK (allD c) sp.rels[k] && (walkT (allD c) ((allP (c.spaces.take i)).length + k) (T sp.rels[k].nodes) false).2) := by
      show (match (allD c)[(allP (c.spaces.take i)).length + k]? with
        | some x => appD (upD T (allD c) ((allP (c.spaces.take i)).length + k)) ((walkT (allD c) ((allP (c.spaces.take i)).length + k) (T x.2.nodes) false).1, tyOK (allD c) x.2 && (walkT (allD c) ((allP (c.spaces.take i)).length + k) (T x.2.nodes) false).2)
        | none => upD T (allD c) ((allP (c.spaces.take i)).length + k)) = _
      rw [hx]
    rw [e2, ← appE_assoc, e3]
    exact (rels_sim hT hg hi ho k (by omega)).app h1
theorem spaces_sim {T : List NodeS → Tr} (hT : TreeF T) {c : ConfS} (hg : GoodC c) : ∀ i : Nat, i ≤ c.spaces.length → SimE c (spacesUp c i) (upD T (allD c) (allP (c.spaces.take i)).length)
  | 0, _ => .inl ⟨[], rfl, rfl, rfl⟩
  | i + 1, hi => by
    have hx : c.spaces[i]? = some c.spaces[i] := List.getElem?_eq_getElem hi
    have h := rels_sim hT hg hx (spaces_sim hT hg i (by omega)) c.spaces[i].rels.length (Nat.le_refl _)
    rw [allP_snoc hx, List.length_append, List.length_map]
    have e : spacesUp c (i + 1) = appE (spacesUp c i) (relsUp c i c.spaces[i].rels.length) := by
      simp only [spacesUp, hx]
      cases spacesUp c i <;> dsimp only <;> cases relsUp c i c.spaces[i].rels.length <;> rfl
    rw [e]
    exact h
theorem all_sim {T : List NodeS → Tr} (hT : TreeF T) {c : ConfS} (hg : GoodC c) : SimE c (allE c) (edgesD T c) := by
  have h := spaces_sim hT hg c.spaces.length (Nat.le_refl _)
  rw [List.take_length] at h
  have h : SimE c (spacesUp c c.spaces.length) (upD T (allD c) (allD c).length) := h
  have hsc : c.scopes.all (fun s => (findS c (scopeKey s)).isSome) = c.scopes.all (scOKD (allD c)) := by
    congr 1
    funext s
    unfold scOKD
    rw [find_is]
    show (findS c ⟨s.object.space, s.rel⟩).isSome = _
    cases findS c ⟨s.object.space, s.rel⟩ with
    | none => rfl
    | some q => dsimp only; rw [decide_eq_true (p := (0 : Int) ≤ (ixS c q : Nat)) (Int.natCast_nonneg _)]; rfl
  unfold allE edgesD
  rw [hsc]
  rcases h with ⟨es, h1, h2, h3⟩ | ⟨h1, h2⟩
  · rw [h1, h2, Bool.true_and]
    dsimp only
    cases hb : c.scopes.all (scOKD (allD c)) with
    | true => exact .inl ⟨es, rfl, rfl, h3⟩
    | false => exact .inr ⟨rfl, rfl⟩
  · rw [h1, h2, Bool.false_and]
    exact .inr ⟨rfl, rfl⟩
end Go.Proofs.YtcgbcbdgjhnlaaaGreat
