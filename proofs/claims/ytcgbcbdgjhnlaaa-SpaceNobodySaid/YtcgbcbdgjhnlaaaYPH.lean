/- Layer 16 (rule): the document's parser, plain and walked; it answers as the program's. -/
import Derived.Test.YtcgbcbdgjhnlaaaYPG
import Derived.Test.YtcgbcbdgjhnlaaaYPE
import Derived.Test.YtcgbcbdgjhnlaaaYPD
import Derived.Test.YtcgbcbdgjhnlaaaYPC
import Derived.Test.YtcgbcbdgjhnlaaaYPB
namespace Go.Proofs.Ytcgbcbdgjhnlaaa

/-- Where the nodes begin that end ahead of a place, and how deep they are. -/
def treeD (l : List NodeS) : Nat → Nat → Option (Nat × Nat)
  | 0, _ => none
  | _, 0 => none
  | f + 1, e + 1 => match l[e]? with
    | none => none
    | some n => if isOp n then
        match treeD l f e with
        | none => none
        | some (b, x) => match treeD l f b with
          | none => none
          | some (a, y) => if n.a = (b : Int) - 1 ∧ n.b = (e : Int) - 1 ∧ n.rel = [] ∧ n.thn = [] then some (a, (if x < y then y else x) + 1) else none
      else if leafN n then some (e, 1) else none
def deepD (l : List NodeS) : Nat := match treeD l l.length l.length with | some (0, d) => d | _ => 0
end Go.Proofs.Ytcgbcbdgjhnlaaa

namespace Go.Proofs.Ytcgbcbdgjhnlaaa
open Go.RowKit

end Go.Proofs.Ytcgbcbdgjhnlaaa

namespace Go.Proofs.Ytcgbcbdgjhnlaaa
open Go.RowKit

end Go.Proofs.Ytcgbcbdgjhnlaaa

namespace Go.Proofs.Ytcgbcbdgjhnlaaa
open Go.RowKit

end Go.Proofs.Ytcgbcbdgjhnlaaa

namespace Go.Proofs.Ytcgbcbdgjhnlaaa
open Go.RowKit

end Go.Proofs.Ytcgbcbdgjhnlaaa

namespace Go.Proofs.Ytcgbcbdgjhnlaaa
open Go.RowKit

end Go.Proofs.Ytcgbcbdgjhnlaaa

namespace Go.Proofs.Ytcgbcbdgjhnlaaa
open Go.RowKit

end Go.Proofs.Ytcgbcbdgjhnlaaa

namespace Go.Proofs.Ytcgbcbdgjhnlaaa
open Go.RowKit

def tA : Option (Nat × Nat) → Int
  | some (a, _) => a
  | none => -1
end Go.Proofs.Ytcgbcbdgjhnlaaa

namespace Go.Proofs.Ytcgbcbdgjhnlaaa

end Go.Proofs.Ytcgbcbdgjhnlaaa

namespace Go.Proofs.Ytcgbcbdgjhnlaaa

end Go.Proofs.Ytcgbcbdgjhnlaaa

namespace Go.Proofs.Ytcgbcbdgjhnlaaa
open Go.RowKit

end Go.Proofs.Ytcgbcbdgjhnlaaa

namespace Go.Proofs.Ytcgbcbdgjhnlaaa

theorem deepR_app : ∀ (a b : List NodeS) (ss ds : List Int), deepR ss ds (a ++ b) = match deepR ss ds a with | some (s', d') => deepR s' d' b | none => none
  | [], b, ss, ds => rfl
  | n :: a, b, ss, ds => by
    simp only [List.cons_append, deepR]
    cases stepD ss ds n with
    | none => rfl
    | some p => exact deepR_app a b _ _
/-- Nodes that are one tree, behind so many others. -/
structure Seg (a e d : Nat) (seg : List NodeS) : Prop where
  len : seg.length = e - a
  lt : a < e
  pos : 1 ≤ d
  run : ∀ ss ds : List Int, ss.length = a → ds.length = a → ∃ s' d', deepR ss ds seg = some (ss ++ s', ds ++ d') ∧ s'.length = e - a ∧ d'.length = e - a ∧ s'.getD (e - a - 1) 0 = ((e - a : Nat) : Int) ∧ d'.getD (e - a - 1) 0 = d
theorem Seg.leaf {n : NodeS} (h1 : isOp n = false) (h2 : leafN n = true) (a : Nat) : Seg a (a + 1) 1 [n] := by
  refine ⟨by simp, by omega, Nat.le_refl _, fun ss ds _ _ => ⟨[1], [1], ?_, by simp, by simp, ?_, ?_⟩⟩
  · simp only [deepR, stepD, h1, h2, if_true, Bool.false_eq_true, if_false]
  · simp
  · simp
theorem getD_app {ss t : List Int} {i : Nat} : (ss ++ t).getD (ss.length + i) 0 = t.getD i 0 := by
  rw [List.getD_eq_getElem?_getD, List.getD_eq_getElem?_getD, List.getElem?_append_right (by omega), Nat.add_sub_cancel_left]
theorem getD_app_l {ss t : List Int} {i : Nat} (h : i < ss.length) : (ss ++ t).getD i 0 = ss.getD i 0 := by
  rw [List.getD_eq_getElem?_getD, List.getD_eq_getElem?_getD, List.getElem?_append_left h]
theorem Seg.join {a b e x y : Nat} {k : Int} {s1 s2 : List NodeS} (h1 : Seg a b y s1) (h2 : Seg b e x s2) (hk : k = 4 ∨ k = 5 ∨ k = 6) : Seg a (e + 1) ((if x < y then y else x) + 1) (s1 ++ s2 ++ [⟨k, [], [], (b : Int) - 1, (e : Int) - 1⟩]) := by
  have q1 := h1.lt
  have q2 := h2.lt
  have q3 := h1.pos
  have q4 := h2.pos
  refine ⟨by simp only [List.length_append, List.length_singleton, h1.len, h2.len]; omega, by omega, by omega, fun ss ds hs hd => ?_⟩
  obtain ⟨u1, v1, r1, r2, r3, r4, r5⟩ := h1.run ss ds hs hd
  obtain ⟨u2, v2, p1, p2, p3, p4, p5⟩ := h2.run (ss ++ u1) (ds ++ v1) (by rw [List.length_append]; omega) (by rw [List.length_append]; omega)
  have ls : (ss ++ u1 ++ u2).length = e := by simp only [List.length_append]; omega
  have ld : (ds ++ v1 ++ v2).length = e := by simp only [List.length_append]; omega
  have g1 : (ss ++ u1 ++ u2).getD (b - 1) 0 = ((b - a : Nat) : Int) := by
    rw [getD_app_l (by simp only [List.length_append]; omega), show b - 1 = ss.length + (b - a - 1) by omega, getD_app, r4]
  have g2 : (ss ++ u1 ++ u2).getD (e - 1) 0 = ((e - b : Nat) : Int) := by
    rw [show e - 1 = (ss ++ u1).length + (e - b - 1) by simp only [List.length_append]; omega, getD_app, p4]
  have g3 : (ds ++ v1 ++ v2).getD (b - 1) 0 = y := by
    rw [getD_app_l (by simp only [List.length_append]; omega), show b - 1 = ds.length + (b - a - 1) by omega, getD_app, r5]
  have g4 : (ds ++ v1 ++ v2).getD (e - 1) 0 = x := by
    rw [show e - 1 = (ds ++ v1).length + (e - b - 1) by simp only [List.length_append]; omega, getD_app, p5]
  have hop : isOp (⟨k, [], [], (b : Int) - 1, (e : Int) - 1⟩ : NodeS) = true := by
    unfold isOp
    rcases hk with rfl | rfl | rfl <;> rfl
  have t1 : ((b : Int) - 1).toNat = b - 1 := by omega
  have t2 : ((e : Int) - 1).toNat = e - 1 := by omega
  refine ⟨u1 ++ u2 ++ [((e + 1 - a : Nat) : Int)], v1 ++ v2 ++ [(((if x < y then y else x) + 1 : Nat) : Int)], ?_, by simp only [List.length_append, List.length_singleton]; omega, by simp only [List.length_append, List.length_singleton]; omega, ?_, ?_⟩
  · rw [deepR_app, deepR_app, r1]
    dsimp only
    rw [p1]
    dsimp only
    have hst : stepD (ss ++ u1 ++ u2) (ds ++ v1 ++ v2) ⟨k, [], [], (b : Int) - 1, (e : Int) - 1⟩ = some (((e + 1 - a : Nat) : Int), (((if x < y then y else x) + 1 : Nat) : Int)) := by
      unfold stepD
      rw [hop]
      dsimp only
      rw [ls, g2, t1, t2, g1, g2, g3, g4, if_pos rfl, if_pos ⟨rfl, rfl, rfl, by omega, by omega, by omega⟩]
      congr 1
      refine Prod.ext ?_ ?_
      · show ((b - a : Nat) : Int) + ((e - b : Nat) : Int) + 1 = ((e + 1 - a : Nat) : Int); omega
      · show (if (y : Int) ≤ x then (x : Int) else y) + 1 = (((if x < y then y else x) + 1 : Nat) : Int)
        split <;> split <;> omega
    simp only [deepR, hst]
    simp only [List.append_assoc]
  · have : e + 1 - a - 1 = (u1 ++ u2).length + 0 := by simp only [List.length_append]; omega
    rw [this, getD_app]; (first | done | rfl)
  · have : e + 1 - a - 1 = (v1 ++ v2).length + 0 := by simp only [List.length_append]; omega
    rw [this, getD_app]; (first | done | rfl)
theorem tree_seg {l : List NodeS} : ∀ (f e a d : Nat), treeD l f e = some (a, d) → a < e ∧ e ≤ l.length ∧ Seg a e d ((l.drop a).take (e - a))
  | 0, e, a, d, h => by cases h
  | f + 1, 0, a, d, h => by cases h
  | f + 1, e + 1, a, d, h => by
    simp only [treeD] at h
    split at h
    · cases h
    · rename_i n hn
      have hl := (List.getElem?_eq_some_iff.1 hn).1
      split at h
      · rename_i hop
        split at h
        · cases h
        · rename_i b x hb
          obtain ⟨i1, i2, hs2⟩ := tree_seg f _ _ _ hb
          split at h
          · cases h
          · rename_i a' y ha
            obtain ⟨j1, j2, hs1⟩ := tree_seg f _ _ _ ha
            split at h
            · rename_i hc
              simp only [Option.some.injEq, Prod.mk.injEq] at h
              obtain ⟨rfl, rfl⟩ := h
              refine ⟨by omega, by omega, ?_⟩
              have hk : n.kind = 4 ∨ n.kind = 5 ∨ n.kind = 6 := by
                unfold isOp at hop
                simp only [Bool.or_eq_true, decide_eq_true_eq] at hop
                omega
              have hj := Seg.join hs1 hs2 hk
              have en : n = ⟨n.kind, [], [], (b : Int) - 1, (e : Int) - 1⟩ := by
                obtain ⟨k, r, t, na, nb⟩ := n
                obtain ⟨h1, h2, h3, h4⟩ := hc
                dsimp only at h1 h2 h3 h4
                rw [h1, h2, h3, h4]
              rw [← en] at hj
              have es : (l.drop a').take (e + 1 - a') = (l.drop a').take (b - a') ++ (l.drop b).take (e - b) ++ [n] := by
                have e1 : (l.drop a').take (e - a') = (l.drop a').take (b - a') ++ (l.drop b).take (e - b) := by
                  rw [show e - a' = (b - a') + (e - b) by omega, List.take_add, List.drop_drop, show a' + (b - a') = b by omega]
                rw [show e + 1 - a' = (e - a') + 1 by omega, List.take_add_one, e1, List.getElem?_drop, show a' + (e - a') = e by omega, hn]; (first | done | rfl)
              rw [es]; exact hj
            · cases h
      · rename_i hop
        split at h
        · rename_i hleaf
          simp only [Option.some.injEq, Prod.mk.injEq] at h
          obtain ⟨rfl, rfl⟩ := h
          refine ⟨by omega, by omega, ?_⟩
          have es : (l.drop e).take (e + 1 - e) = [n] := by
            rw [show e + 1 - e = 0 + 1 by omega, List.take_add_one, List.getElem?_drop, Nat.add_zero, hn]; (first | done | rfl)
          rw [es]
          exact Seg.leaf (by simpa using hop) hleaf e
        · cases h
theorem treeD_app {l r : List NodeS} : ∀ (f e : Nat), e ≤ l.length → treeD (l ++ r) f e = treeD l f e
  | 0, e, _ => rfl
  | f + 1, 0, _ => rfl
  | f + 1, e + 1, h => by
    simp only [treeD]
    rw [List.getElem?_append_left (show e < l.length by omega), treeD_app f e (by omega)]
    cases hn : l[e]? with
    | none => rfl
    | some n =>
      dsimp only
      cases hb : treeD l f e with
      | none => rfl
      | some p =>
        obtain ⟨b, x⟩ := p
        obtain ⟨i1, i2, _⟩ := tree_seg f _ _ _ hb
        dsimp only
        rw [treeD_app f b (by omega)]
structure DeepOK (l : List NodeS) (ss ds : List Int) : Prop where
  n : ss.length = l.length
  m : ds.length = l.length
  t : ∀ e, e < l.length → ∃ s d : Nat, ss.getD e 0 = s ∧ ds.getD e 0 = d ∧ s ≤ e + 1 ∧ 1 ≤ s ∧ ∀ f, e + 1 ≤ f → treeD l f (e + 1) = some (e + 1 - s, d)
theorem deepR_ok : ∀ (r l : List NodeS) (ss ds ss' ds' : List Int), DeepOK l ss ds → deepR ss ds r = some (ss', ds') → DeepOK (l ++ r) ss' ds'
  | [], l, ss, ds, ss', ds', h, e => by
    simp only [deepR, Option.some.injEq, Prod.mk.injEq] at e
    obtain ⟨rfl, rfl⟩ := e
    rw [List.append_nil]; exact h
  | n :: r, l, ss, ds, ss', ds', h, e => by
    simp only [deepR] at e
    split at e
    · rename_i x y hst
      have key : DeepOK (l ++ [n]) (ss ++ [x]) (ds ++ [y]) := by
        refine ⟨by simp [h.n], by simp [h.m], fun i hi => ?_⟩
        rw [List.length_append, List.length_singleton] at hi
        by_cases hil : i < l.length
        · obtain ⟨s, d, h1, h2, h3, h4, h5⟩ := h.t i hil
          refine ⟨s, d, by rw [getD_app_l (by rw [h.n]; exact hil)]; exact h1, by rw [getD_app_l (by rw [h.m]; exact hil)]; exact h2, h3, h4, fun f hf => ?_⟩
          rw [treeD_app f (i + 1) (by omega)]; exact h5 f hf
        · obtain rfl : i = l.length := by omega
          have gx : (ss ++ [x]).getD l.length 0 = x := by rw [← h.n, show ss.length = ss.length + 0 from rfl, getD_app]; (first | done | rfl)
          have gy : (ds ++ [y]).getD l.length 0 = y := by rw [← h.m, show ds.length = ds.length + 0 from rfl, getD_app]; (first | done | rfl)
          rw [gx, gy]
          have hn : (l ++ [n])[l.length]? = some n := by simp
          unfold stepD at hst
          split at hst
          · rename_i hop
            split at hst
            · rename_i hc
              obtain ⟨c1, c2, c3, c4, c5, c6⟩ := hc
              simp only [Option.some.injEq, Prod.mk.injEq] at hst
              obtain ⟨rfl, rfl⟩ := hst
              rw [h.n] at c3 c5
              have hl1 : l.length - 1 < l.length := by omega
              obtain ⟨s2, d2, a1, a2, a3, a4, a5⟩ := h.t (l.length - 1) hl1
              rw [a1] at c5
              have hna : n.a.toNat = l.length - 1 - s2 := by omega
              obtain ⟨s1, d1, b1, b2, b3, b4, b5⟩ := h.t (l.length - 1 - s2) (by omega)
              have hnb : n.b.toNat = l.length - 1 := by omega
              rw [hna, hnb, a1, a2, b1, b2]
              refine ⟨s1 + s2 + 1, (if d2 < d1 then d1 else d2) + 1, by omega, by split <;> split <;> omega, by omega, by omega, fun f hf => ?_⟩
              obtain ⟨f, rfl⟩ : ∃ f', f = f' + 1 := ⟨f - 1, by omega⟩
              simp only [treeD, hn, hop, if_true]
              rw [treeD_app f l.length (Nat.le_refl _)]
              have t2 := a5 f (by omega)
              rw [show l.length - 1 + 1 = l.length by omega] at t2
              rw [t2]
              dsimp only
              have t1 := b5 f (by omega)
              rw [show l.length - 1 - s2 + 1 = l.length - s2 by omega] at t1
              rw [treeD_app f (l.length - s2) (by omega), t1]
              dsimp only
              rw [if_pos ⟨by omega, by omega, c1, c2⟩]
              congr 2
              omega
            · cases hst
          · rename_i hop
            split at hst
            · rename_i hleaf
              simp only [Option.some.injEq, Prod.mk.injEq] at hst
              obtain ⟨rfl, rfl⟩ := hst
              refine ⟨1, 1, rfl, rfl, by omega, by omega, fun f hf => ?_⟩
              obtain ⟨f, rfl⟩ : ∃ f', f = f' + 1 := ⟨f - 1, by omega⟩
              simp only [treeD, hn]
              rw [if_neg hop, if_pos hleaf]; (first | done | rfl)
            · cases hst
      have := deepR_ok r (l ++ [n]) _ _ _ _ key e
      rw [List.append_assoc] at this
      exact this
    · cases e
theorem deep_is (l : List NodeS) : deepN l = (deepD l : Int) := by
  have h0 : DeepOK [] [] [] := ⟨rfl, rfl, fun e h => by cases h⟩
  cases hr : deepR [] [] l with
  | none =>
    have e1 : deepN l = 0 := by unfold deepN; rw [hr]
    rw [e1]
    unfold deepD
    split
    · rename_i d ht
      obtain ⟨_, _, hs⟩ := tree_seg _ _ _ _ ht
      obtain ⟨s', d', h1, _⟩ := hs.run [] [] rfl rfl
      rw [List.drop_zero, Nat.sub_zero, List.take_length, hr] at h1
      cases h1
    · rfl
  | some p =>
    obtain ⟨ss, ds⟩ := p
    have hok := deepR_ok l [] [] [] ss ds h0 hr
    rw [List.nil_append] at hok
    unfold deepN
    rw [hr]
    dsimp only
    cases hl : l with
    | nil => rfl
    | cons n r =>
      rw [← hl]
      have hlen : 1 ≤ l.length := by rw [hl]; simp
      obtain ⟨s, d, h1, h2, h3, h4, h5⟩ := hok.t (l.length - 1) (by omega)
      have ht := h5 l.length (by omega)
      rw [show l.length - 1 + 1 = l.length by omega] at ht h3
      rw [h1, h2]
      unfold deepD
      rw [ht]
      by_cases hs : s = l.length
      · rw [if_neg, hs, Nat.sub_self]
        · rfl
        · rintro (h | h)
          · rw [h] at hlen; cases hlen
          · exact h (by omega)
      · rw [if_pos (.inr (by omega))]
        obtain ⟨z, hz⟩ : ∃ z, l.length - s = z + 1 := ⟨l.length - s - 1, by omega⟩
        rw [hz]; (first | done | rfl)
end Go.Proofs.Ytcgbcbdgjhnlaaa

namespace Go.Proofs.Ytcgbcbdgjhnlaaa

/-- An expression's nodes behind others: one tree. -/
def SegG (ns ns' : List NodeS) : Prop := ∃ seg d, ns' = ns ++ seg ∧ Seg ns.length ns'.length d seg
theorem SegG.leaf {n : NodeS} (h1 : isOp n = false) (h2 : leafN n = true) (ns : List NodeS) : SegG ns (ns ++ [n]) := ⟨[n], 1, rfl, by rw [List.length_append]; exact Seg.leaf h1 h2 _⟩
theorem SegG.join {ns n1 n2 : List NodeS} (h1 : SegG ns n1) (h2 : SegG n1 n2) {k : Nat} (hk : k = 4 ∨ k = 5 ∨ k = 6) : SegG ns (joinN k n1 n2) := by
  obtain ⟨s1, y, rfl, g1⟩ := h1
  obtain ⟨s2, x, e2, g2⟩ := h2
  refine ⟨s1 ++ s2 ++ [⟨k, [], [], ((ns ++ s1).length : Int) - 1, (n2.length : Int) - 1⟩], (if x < y then y else x) + 1, ?_, ?_⟩
  · unfold joinN
    rw [e2]; simp only [List.append_assoc]
  · rw [joinN_len]
    exact Seg.join g1 g2 (by omega)
theorem ruleP_good (s : List UInt8) : okC (ruleP s).1 := by
  have hno : okC noConf := ⟨Nat.zero_le _, Nat.zero_le _, fun s hs => (by cases hs), fun s hs => (by cases hs)⟩
  obtain ⟨b1, b2⟩ := lexA_b s
  unfold ruleP
  split
  · split
    · exact hno
    · split
      · exact hno
      · split
        · exact conf_good ⟨(lexA s).1, false⟩ b2 b1
        · exact hno
  · exact hno
end Go.Proofs.Ytcgbcbdgjhnlaaa

namespace Go.Proofs.Ytcgbcbdgjhnlaaa
open Go.RowKit

theorem eqNode : EqOK Try.prog 93 [93] := ⟨Try.eqGuardType93, fun s hs => by rw [List.mem_singleton.1 hs]; exact Try.stoodInHeld93⟩
theorem eqScope : EqOK Try.prog 163 [163, 42] := ⟨Try.eqGuardType163, fun s hs => by
  simp only [List.mem_cons, List.not_mem_nil, or_false] at hs
  rcases hs with rfl | rfl
  · exact Try.stoodInHeld163
  · exact Try.stoodInHeld42⟩
set_option maxHeartbeats 4000000 in
theorem samerel_x (r : RelS) (hl : r.types.length ≤ 1000000 ∧ r.nodes.length ≤ 1000000) (cs ds : List Value) (W : PW) (h : RelR W r cs) (h' : RelR W r ds) : CallsX Try.prog 102 ⟨[.agg ⟨cs⟩, .agg ⟨ds⟩]⟩ [] W fun v _ => v = .bool true := by
  obtain ⟨tv, nv, rfl, hT, hN⟩ := h
  obtain ⟨tv', nv', rfl, hT', hN'⟩ := h'
  obtain ⟨l1, l2⟩ := hl
  obtain ⟨a1, c1, rfl, _, _⟩ := hT.form
  obtain ⟨a2, c2, rfl, _, _⟩ := hN.form
  obtain ⟨b1, d1, rfl, _, _⟩ := hT'.form
  obtain ⟨b2, d2, rfl, _, _⟩ := hN'.form
  refine pureX hmix Try.func102 r102 (by kernel_rfl) [.agg ⟨[strV r.name, .slice a1 r.types.length c1, .slice a2 r.nodes.length c2]⟩, .agg ⟨[strV r.name, .slice b1 r.types.length d1, .slice b2 r.nodes.length d2]⟩] rfl ?_
  refine br_nsplit (fun hn => absurd rfl hn) (fun _ => ⟨rfl, ?_⟩)
  apply br_nsplit (fun hn => absurd rfl hn)
  intro _
  refine ⟨rfl, ?_⟩
  apply br_nsplit (fun hn => absurd rfl hn)
  intro _
  refine ⟨Nat, fun i => [(5, .v (.int .i64 i))], fun _ => [[.v (strV r.name), .v (.slice a1 r.types.length c1), .v (.slice a2 r.nodes.length c2)], [.v (strV r.name), .v (.slice b1 r.types.length d1), .v (.slice b2 r.nodes.length d2)]], fun _ => [], fun i _ => i ≤ r.types.length, fun i => r.types.length - i, 0,
    all_sl ⟨rfl, trivial⟩, rfl, ole_refl _, Nat.zero_le _, loopOK (fun _ => ⟨⟨trivial, rfl⟩, trivial⟩) (fun _ => rfl) (fun _ => rfl), ?_⟩
  intro i W1 w1 hi fr
  refine ⟨rfl, br_split (fun hq => ?_) (fun hq => ?_)⟩
  · have hq : (i : Int) < r.types.length := hq
    obtain ⟨p1, rfl, x, hx, _, _, hr1⟩ := hT.at (sz := 2) (fun _ => rfl) w1 (j := i) ⟨by omega, hq⟩
    obtain ⟨p2, rfl, y, hy, _, _, hr2⟩ := hT'.at (sz := 2) (fun _ => rfl) w1 (j := i) ⟨by omega, hq⟩
    obtain rfl : x = y := Option.some.inj (hx.symm.trans hy)
    refine ⟨⟨by omega, hq⟩, p1, rfl, typC x, rfl, hr1.o, ⟨by omega, hq⟩, p2, rfl, typC x, rfl, hr2.o, eqTyp, ?_⟩
    refine br_f (by simp) ?_
    exact ⟨rfl, _, (i64_in ((i : Int) + 1) ⟨by omega, by omega⟩).symm, i + 1, all_sl ⟨rfl, trivial⟩, rfl, ole_refl _, by omega, by dsimp only; omega⟩
  refine ⟨Nat, fun i => [(6, .v (.int .i64 i))], fun _ => [[.v (strV r.name), .v (.slice a1 r.types.length c1), .v (.slice a2 r.nodes.length c2)], [.v (strV r.name), .v (.slice b1 r.types.length d1), .v (.slice b2 r.nodes.length d2)]], fun _ => [], fun i _ => i ≤ r.nodes.length, fun i => r.nodes.length - i, 0,
    all_sl ⟨rfl, trivial⟩, rfl, ole_refl _, Nat.zero_le _, loopOK (fun _ => ⟨⟨trivial, rfl⟩, trivial⟩) (fun _ => rfl) (fun _ => rfl), ?_⟩
  intro j W2 w2 hj fr2
  refine ⟨rfl, br_split (fun hq => ?_) (fun hq => ?_)⟩
  · have hq : (j : Int) < r.nodes.length := hq
    obtain ⟨p1, rfl, x, hx, _, _, hr1⟩ := hN.at (sz := 5) (fun _ => rfl) (w1.trans w2) (j := j) ⟨by omega, hq⟩
    obtain ⟨p2, rfl, y, hy, _, _, hr2⟩ := hN'.at (sz := 5) (fun _ => rfl) (w1.trans w2) (j := j) ⟨by omega, hq⟩
    obtain rfl : x = y := Option.some.inj (hx.symm.trans hy)
    refine ⟨⟨by omega, hq⟩, p1, rfl, nodeC x, rfl, hr1.o, ⟨by omega, hq⟩, p2, rfl, nodeC x, rfl, hr2.o, eqNode, ?_⟩
    refine br_f (by simp) ?_
    exact ⟨rfl, _, (i64_in ((j : Int) + 1) ⟨by omega, by omega⟩).symm, j + 1, all_sl ⟨rfl, trivial⟩, rfl, ole_refl _, by omega, by dsimp only; omega⟩
  exact ret_plain rfl fun _ _ => rfl
set_option maxHeartbeats 4000000 in
theorem same_x (x : ConfS) (hok : okCB x) (cs ds : List Value) (W : PW) (h : ConfR W x cs) (h' : ConfR W x ds) : CallsX Try.prog 54 ⟨[.agg ⟨cs⟩, .agg ⟨ds⟩]⟩ [] W fun v _ => v = .bool true := by
  obtain ⟨sv, kv, rfl, hS, hK⟩ := h
  obtain ⟨sv', kv', rfl, hS', hK'⟩ := h'
  have hn := hok.n
  have hm := hok.m
  obtain ⟨a1, c1, rfl, _, _⟩ := hS.form
  obtain ⟨a2, c2, rfl, _, _⟩ := hK.form
  obtain ⟨b1, d1, rfl, _, _⟩ := hS'.form
  obtain ⟨b2, d2, rfl, _, _⟩ := hK'.form
  refine pureX hmix Try.func54 r54 (by kernel_rfl) [.agg ⟨[.slice a1 x.spaces.length c1, .slice a2 x.scopes.length c2]⟩, .agg ⟨[.slice b1 x.spaces.length d1, .slice b2 x.scopes.length d2]⟩] rfl ?_
  refine ⟨rfl, br_nsplit (fun hn => absurd rfl hn) (fun _ => ⟨rfl, ?_⟩)⟩
  apply br_nsplit (fun hn => absurd rfl hn)
  intro _
  refine ⟨Nat, fun i => [(5, .v (.int .i64 i))], fun _ => [[.v (.slice a1 x.spaces.length c1), .v (.slice a2 x.scopes.length c2)], [.v (.slice b1 x.spaces.length d1), .v (.slice b2 x.scopes.length d2)]], fun _ => [], fun i _ => i ≤ x.spaces.length, fun i => x.spaces.length - i, 0,
    all_sl ⟨rfl, trivial⟩, rfl, ole_refl _, Nat.zero_le _, loopOK (fun _ => ⟨⟨trivial, rfl⟩, trivial⟩) (fun _ => rfl) (fun _ => rfl), ?_⟩
  intro i W1 w1 hi fr
  refine ⟨rfl, br_split (fun hq => ?_) (fun hq => ?_)⟩
  · have hq : (i : Int) < x.spaces.length := hq
    obtain ⟨p1, rfl, s, es, hx, _, ⟨rv, hes, hR⟩, hr1, _⟩ := hS.at SpR.mono w1 (j := i) ⟨by omega, hq⟩
    obtain ⟨p2, rfl, s', es', hy, _, ⟨rv', hes', hR'⟩, hr2, _⟩ := hS'.at SpR.mono w1 (j := i) ⟨by omega, hq⟩
    obtain rfl : s = s' := Option.some.inj (hx.symm.trans hy)
    have hx : x.spaces[i]? = some s := hx
    have hsok := hok.sp s (List.mem_of_getElem? hx)
    have hrn := hsok.n
    obtain ⟨a3, c3, rfl, _, _⟩ := hR.form
    obtain ⟨b3, d3, rfl, _, _⟩ := hR'.form
    subst hes hes'
    refine ⟨⟨by omega, hq⟩, p1, rfl, strV s.name, (hr1 0 _ rfl).o, ⟨by omega, hq⟩, p2, rfl, strV s.name, (hr2 0 _ rfl).o, br_nsplit (fun hn => absurd rfl hn) (fun _ => ?_)⟩
    refine ⟨⟨by omega, hq⟩, p1, rfl, .slice a3 s.rels.length c3, (hr1 1 _ rfl).o, ⟨by omega, hq⟩, p2, rfl, .slice b3 s.rels.length d3, (hr2 1 _ rfl).o, rfl, ?_⟩
    apply br_nsplit (fun hn => absurd rfl hn)
    intro _
    refine ⟨Nat, fun j => [(6, .v (.int .i64 j))], fun _ => [[.v (.slice (some p1) x.spaces.length c1), .v (.slice a2 x.scopes.length c2)], [.v (.slice (some p2) x.spaces.length d1), .v (.slice b2 x.scopes.length d2)]], fun _ => [], fun j _ => j ≤ s.rels.length, fun j => s.rels.length - j, 0,
      all_sl ⟨rfl, trivial⟩, rfl, ole_refl _, Nat.zero_le _, loopOK (fun _ => ⟨⟨trivial, rfl⟩, trivial⟩) (fun _ => rfl) (fun _ => rfl), ?_⟩
    intro j W2 w2 hj fr2
    refine ⟨⟨by omega, hq⟩, p1, rfl, .slice a3 s.rels.length c3, ((hr1 1 _ rfl).mono w2).o, rfl, ?_⟩
    apply br_split
    · intro hq2
      have hq2 : (j : Int) < s.rels.length := hq2
      obtain ⟨p3, rfl, r, fs, hx3, _, hR3, hr3, hrd3⟩ := hR.at RelR.mono w2 (j := j) ⟨by omega, hq2⟩
      obtain ⟨p4, rfl, r', fs', hy3, _, hR4, hr4, hrd4⟩ := hR'.at RelR.mono w2 (j := j) ⟨by omega, hq2⟩
      obtain rfl : r = r' := Option.some.inj (hx3.symm.trans hy3)
      have hx3 : s.rels[j]? = some r := hx3
      have hrok := hsok.rels r (List.mem_of_getElem? hx3)
      have hfs : fs.length = 3 := by obtain ⟨_, _, rfl, _⟩ := hR3; (first | done | rfl)
      have hfs' : fs'.length = 3 := by obtain ⟨_, _, rfl, _⟩ := hR4; (first | done | rfl)
      refine ⟨⟨by omega, hq⟩, p1, rfl, .slice (some p3) s.rels.length c3, ((hr1 1 _ rfl).mono w2).o, ⟨by omega, hq2⟩, p3, rfl, fs, hfs, hrd3.o,
        ⟨by omega, hq⟩, p2, rfl, .slice (some p4) s.rels.length d3, ((hr2 1 _ rfl).mono w2).o, ⟨by omega, hq2⟩, p4, rfl, fs', hfs', hrd4.o, ?_⟩
      refine call_v rfl (fun W' lw => samerel_x r ⟨hrok.tn, by have := hrok.rel.1; omega⟩ fs fs' W' (RelR.mono _ _ _ _ lw hR3) (RelR.mono _ _ _ _ lw hR4)) (fun W3 v W4 _ _ hv => ?_)
      subst hv
      exact ⟨rfl, _, (i64_in ((j : Int) + 1) ⟨by omega, by omega⟩).symm, j + 1, all_sl ⟨rfl, trivial⟩, rfl, ole_refl _, by omega, by dsimp only; omega⟩
    · intro _
      exact ⟨rfl, _, (i64_in ((i : Int) + 1) ⟨by omega, by omega⟩).symm, i + 1, all_sl ⟨rfl, trivial⟩, rfl, ole_refl _, by omega, by dsimp only; omega⟩
  refine ⟨Nat, fun i => [(7, .v (.int .i64 i))], fun _ => [[.v (.slice a1 x.spaces.length c1), .v (.slice a2 x.scopes.length c2)], [.v (.slice b1 x.spaces.length d1), .v (.slice b2 x.scopes.length d2)]], fun _ => [], fun i _ => i ≤ x.scopes.length, fun i => x.scopes.length - i, 0,
    all_sl ⟨rfl, trivial⟩, rfl, ole_refl _, Nat.zero_le _, loopOK (fun _ => ⟨⟨trivial, rfl⟩, trivial⟩) (fun _ => rfl) (fun _ => rfl), ?_⟩
  intro j W2 w2 hj fr2
  refine ⟨rfl, br_split (fun hq => ?_) (fun hq => ?_)⟩
  · have hq : (j : Int) < x.scopes.length := hq
    obtain ⟨p1, rfl, s, hx, _, _, hr1⟩ := hK.at (sz := 4) (fun _ => rfl) (w1.trans w2) (j := j) ⟨by omega, hq⟩
    obtain ⟨p2, rfl, s', hy, _, _, hr2⟩ := hK'.at (sz := 4) (fun _ => rfl) (w1.trans w2) (j := j) ⟨by omega, hq⟩
    obtain rfl : s = s' := Option.some.inj (hx.symm.trans hy)
    refine ⟨⟨by omega, hq⟩, p1, rfl, scopeC s, rfl, hr1.o, ⟨by omega, hq⟩, p2, rfl, scopeC s, rfl, hr2.o, eqScope, ?_⟩
    refine br_f (by simp) ?_
    exact ⟨rfl, _, (i64_in ((j : Int) + 1) ⟨by omega, by omega⟩).symm, j + 1, all_sl ⟨rfl, trivial⟩, rfl, ole_refl _, by omega, by dsimp only; omega⟩
  exact ret_plain rfl fun _ _ => rfl
end Go.Proofs.Ytcgbcbdgjhnlaaa

namespace Go.Proofs.Ytcgbcbdgjhnlaaa
open Go.RowKit

end Go.Proofs.Ytcgbcbdgjhnlaaa

