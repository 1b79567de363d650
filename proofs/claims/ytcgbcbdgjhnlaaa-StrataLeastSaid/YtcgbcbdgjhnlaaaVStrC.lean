/- Layer 18 (strata), walked: absences. -/
import Derived.Test.YtcgbcbdgjhnlaaaVStrB
namespace Go.Proofs.Ytcgbcbdgjhnlaaa
open Go.RowKit

def boolC (b : Bool) : List Value := [.bool b]
def boolO (g n : Nat) (l : List Bool) : Own := ⟨.slice (some ⟨g, 0, none⟩) n n, 4, 1, n, l.map Value.bool⟩
theorem set_map {α : Type} (f : α → Value) (v : α) : ∀ {l : List α} {j : Nat}, j < l.length → (l.map f).take j ++ [f v] ++ (l.map f).drop (j + 1) = (l.set j v).map f
  | [], _, h => absurd h (Nat.not_lt_zero _)
  | x :: l, 0, _ => by simp
  | x :: l, j + 1, h => by
    have := set_map f v (l := l) (j := j) (by simpa using h)
    simp at this ⊢
    exact this
theorem flat_bool (l : List Bool) : (l.map boolC).flatten = l.map Value.bool := by
  induction l with
  | nil => rfl
  | cons b l ih => rw [List.map_cons, List.flatten_cons, ih]; rfl
structure AbSt where
  z : Int
  m : Nat
  out : List Bool
theorem get_bool {l : List Bool} {i : Nat} (h : i < l.length) : (l.map Value.bool)[i]? = some (.bool (l.getD i false)) := by
  rw [List.getElem?_map, List.getElem?_eq_getElem h, List.getD_eq_getElem?_getD, List.getElem?_eq_getElem h]; rfl
set_option maxRecDepth 20000 in
set_option maxHeartbeats 16000000 in
theorem absences_x (l : List NodeS) (hl : l.length ≤ 1000000) (hN : ∀ n ∈ l, 4 ≤ n.kind → 0 ≤ n.a ∧ n.a < l.length ∧ 0 ≤ n.b ∧ n.b < l.length) (u : Value) (W : PW) (hu : RP nodeC W u l) :
    CallsX Try.prog 174 ⟨[u]⟩ [] W fun v W' => RP boolC W' v (absS l) := by
  have hmax : (100000000 : Nat) ≤ maxLen := by decide
  obtain ⟨A0, c0, rfl, k1, k2⟩ := hu.form
  obtain ⟨R, hR⟩ : ∃ R, absS l = R := ⟨_, rfl⟩
  rw [hR]
  obtain ⟨L, hL⟩ : ∃ L, l.length = L := ⟨_, rfl⟩
  rw [hL] at hu hl hN ⊢
  refine pureX hmix Try.func174 r174 (by kernel_rfl) [.slice A0 L c0] rfl ?_
  refine ⟨⟨by omega, by omega, by omega, by omega⟩, fun g => ⟨rfl, (L : Int) - 1, (i64_in _ ⟨by omega, by omega⟩).symm, ?_⟩⟩
  refine ⟨AbSt, fun t => [(4, .v (.int .i64 t.z))], fun _ => [], fun t => [boolO g L t.out], fun t _ => t.z = (t.m : Int) - 1 ∧ t.m ≤ L ∧ t.out.length = L ∧ absGo l t.m t.out = R, fun t => t.m, ⟨(L : Int) - 1, L, List.replicate L false⟩,
    all_sl ⟨rfl, trivial⟩, rfl, ole_eq ?_, ⟨rfl, Nat.le_refl _, List.length_replicate, by rw [← hR, ← hL]; rfl⟩, loopOK (fun _ => ⟨⟨trivial, rfl⟩, trivial⟩) (fun _ => rfl) (fun _ => rfl), ?_⟩
  · have e : (List.replicate L [Value.bool false]).flatten = (List.replicate L false).map Value.bool := by
      rw [List.map_replicate]
      clear hR hL hu hl hN k1 hmax
      induction L with
      | zero => rfl
      | succ n ih => rw [List.replicate_succ, List.flatten_cons, ih]; rfl
    exact congrArg (fun cs => [(⟨.slice (some ⟨g, 0, none⟩) L L, 4, 1, L, cs⟩ : Own)]) e
  rintro ⟨z, m, out⟩ W1 l1 ⟨hz, hm, hol, hres⟩ fr
  dsimp only at hz hm hol hres
  refine ⟨rfl, br_split (fun hq => ?_) (fun hq => ?_)⟩
  · have hq : 0 ≤ z := hq
    obtain ⟨m, rfl⟩ : ∃ k, m = k + 1 := ⟨m - 1, by omega⟩
    obtain rfl : z = (m : Int) := by omega
    have dec : (m : Int) - 1 = IntKind.i64.wrap ((m : Int) - 1) := (i64_in _ ⟨by omega, by omega⟩).symm
    obtain ⟨a, rfl, n, hx, _, _, hr⟩ := RP.at (f := nodeC) (sz := 5) (fun _ => rfl) hu l1 (j := (m : Int)) ⟨by omega, by omega⟩
    have hx : l[m]? = some n := hx
    have hn := hN n (List.mem_of_getElem? hx)
    have hstep : absGo l (m + 1) out = absGo l m (absStep n m out) := by rw [absGo, hx]
    rw [hstep] at hres
    have hmg : (out.map Value.bool)[m]? = some (.bool (out.getD m false)) := get_bool (by omega)
    obtain ⟨k, nr, nt, na, nb⟩ := n
    refine ⟨⟨by omega, by show (m : Int) < L; omega⟩, _, rfl, [.int .i64 k, strV nr, strV nt, .int .i64 na, .int .i64 nb], rfl, Rds.o hr, rfl, br_split (fun h4 => ?_) (fun h4 => ?_)⟩
    · have h4 : 4 ≤ k := h4
      obtain ⟨n1, n2, n3, n4⟩ := hn h4
      have n1 : 0 ≤ na := n1
      have n2 : na < L := n2
      have n3 : 0 ≤ nb := n3
      have n4 : nb < L := n4
      have e1 := set_map Value.bool (out.getD m false) (l := out) (j := na.toNat) (by omega)
      obtain ⟨out1, ho1⟩ : ∃ o, out.set na.toNat (out.getD m false) = o := ⟨_, rfl⟩
      have hol1 : out1.length = L := by rw [← ho1, List.length_set]; exact hol
      rw [ho1] at e1
      have hmg1 : (out1.map Value.bool)[m]? = some (.bool (out1.getD m false)) := get_bool (by omega)
      have e2 := fun v => set_map Value.bool v (l := out1) (j := nb.toNat) (by omega)
      have habs : absStep ⟨k, nr, nt, na, nb⟩ m out = out1.set nb.toNat (out1.getD m false || decide (k = 6)) := by
        unfold absStep
        rw [if_pos h4]
        show (out.set na.toNat (out.getD m false)).set nb.toNat ((out.set na.toNat (out.getD m false)).getD m false || decide (k = 6)) = _
        rw [ho1]
      rw [habs] at hres
      refine ⟨⟨by omega, by show (m : Int) < L; omega⟩, _, rfl, .bool (out.getD m false), .inr ⟨0, boolO g L out, ⟨g, 0, none⟩, L, L, m * 1, rfl, rfl, rfl, by rw [Nat.mul_one]; exact hmg⟩, ⟨n1, n2⟩, _, rfl, ?_⟩
      refine ⟨0, boolO g L out, ⟨g, 0, none⟩, L, L, na.toNat * 1, rfl, rfl, rfl, rfl, (fun u hu => by rw [List.mem_singleton.1 hu]; rfl), by rw [Nat.mul_one]; show na.toNat + 1 ≤ (out.map Value.bool).length; rw [List.length_map]; omega, rfl, ?_⟩
      obtain ⟨x, hxo⟩ : ∃ x, out.getD m false = x := ⟨_, rfl⟩
      rw [hxo] at e1
      obtain ⟨b1, hb1⟩ : ∃ x, out1.getD m false = x := ⟨_, rfl⟩
      rw [hb1] at hmg1 hres
      have hO : ∀ v : Bool, (((out.map Value.bool).take (na.toNat * 1) ++ [Value.bool (out.getD m false)] ++ (out.map Value.bool).drop (na.toNat * 1 + 1)).take (nb.toNat * 1) ++ [Value.bool v] ++ ((out.map Value.bool).take (na.toNat * 1) ++ [Value.bool (out.getD m false)] ++ (out.map Value.bool).drop (na.toNat * 1 + 1)).drop (nb.toNat * 1 + 1)) = (out1.set nb.toNat v).map Value.bool := fun v => by
        rw [Nat.mul_one, Nat.mul_one, hxo, e1]; exact e2 v
      have hlen1 : nb.toNat * 1 + 1 ≤ ((out.map Value.bool).take (na.toNat * 1) ++ [Value.bool (out.getD m false)] ++ (out.map Value.bool).drop (na.toNat * 1 + 1)).length := by
        rw [Nat.mul_one, Nat.mul_one, hxo, e1, List.length_map]; omega
      refine ⟨⟨by omega, by show (m : Int) < L; omega⟩, _, rfl, .bool b1, .inr ⟨0, _, ⟨g, 0, none⟩, L, L, m * 1, rfl, rfl, rfl, ?_⟩, ?_⟩
      · show ((out.map Value.bool).take (na.toNat * 1) ++ [Value.bool (out.getD m false)] ++ (out.map Value.bool).drop (na.toNat * 1 + 1))[m * 1]? = _
        rw [Nat.mul_one, Nat.mul_one, hxo, e1]; exact hmg1
      cases b1 with
      | true =>
        refine ⟨⟨n3, n4⟩, _, rfl, ?_⟩
        refine ⟨0, _, ⟨g, 0, none⟩, L, L, nb.toNat * 1, rfl, rfl, rfl, rfl, (fun u hu => by rw [List.mem_singleton.1 hu]; rfl), hlen1, rfl, ?_⟩
        refine ⟨rfl, _, dec, ⟨(m : Int) - 1, m, out1.set nb.toNat true⟩, all_sl ⟨rfl, trivial⟩, rfl, ole_eq ?_, ⟨rfl, by dsimp only; omega, by rw [List.length_set]; exact hol1, by rw [Bool.true_or] at hres; exact hres⟩, by dsimp only; omega⟩
        exact congrArg (fun cs => [(⟨.slice (some ⟨g, 0, none⟩) L L, 4, 1, L, cs⟩ : Own)]) (hO true)
      | false =>
        refine ⟨rfl, ⟨n3, n4⟩, _, rfl, ?_⟩
        refine ⟨0, _, ⟨g, 0, none⟩, L, L, nb.toNat * 1, rfl, rfl, rfl, rfl, (fun u hu => by rw [List.mem_singleton.1 hu]; rfl), hlen1, rfl, ?_⟩
        refine ⟨rfl, _, dec, ⟨(m : Int) - 1, m, out1.set nb.toNat (decide (k = 6))⟩, all_sl ⟨rfl, trivial⟩, rfl, ole_eq ?_, ⟨rfl, by dsimp only; omega, by rw [List.length_set]; exact hol1, by rw [Bool.false_or] at hres; exact hres⟩, by dsimp only; omega⟩
        exact congrArg (fun cs => [(⟨.slice (some ⟨g, 0, none⟩) L L, 4, 1, L, cs⟩ : Own)]) (hO (decide (k = 6)))
    · have h4 : ¬ 4 ≤ k := h4
      have habs : absStep ⟨k, nr, nt, na, nb⟩ m out = out := by unfold absStep; rw [if_neg h4]
      rw [habs] at hres
      exact ⟨rfl, _, dec, ⟨(m : Int) - 1, m, out⟩, all_sl ⟨rfl, trivial⟩, rfl, ole_refl _, ⟨rfl, by dsimp only; omega, hol, hres⟩, by dsimp only; omega⟩
  · have hq : ¬ 0 ≤ z := hq
    obtain rfl : m = 0 := by omega
    have hres : out = R := hres
    subst hres
    refine RetVC.freeze (fun _ hb => hb) (i := 0) rfl fun Wm lm hs0 => ?_
    refine ret_plain rfl fun W' l' => ?_
    have h := SlRead.mono hs0 l'
    show SlRead W' (.slice (some ⟨g, 0, none⟩) L L) out.length (out.map boolC).flatten
    rw [flat_bool, hol]
    exact h
end Go.Proofs.Ytcgbcbdgjhnlaaa

