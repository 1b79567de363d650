/- Layer 17 (show): a type's text, a relation's line. -/
import Derived.Test.YtcgbcbdgjhnlaaaShoW
namespace Go.Proofs.Ytcgbcbdgjhnlaaa
open Go.RowKit

def kindT (t : TypS) : List UInt8 := if t.space = [] then [117, 115, 101, 114] else t.space ++ [35] ++ t.rel
theorem kindT_len {t : TypS} (h : typOK t = true) : (kindT t).length ≤ 65 := by
  unfold typOK at h
  unfold kindT
  split
  · decide
  · rename_i h0
    simp only [h0, decide_false, Bool.false_and, Bool.false_or, Bool.and_eq_true] at h
    have h1 := wordS_len h.1
    have h2 := wordS_len h.2
    simp only [List.length_append, List.length_cons, List.length_nil]; omega
theorem typOK_len {t : TypS} (h : typOK t = true) : t.space.length + t.rel.length ≤ 64 := by
  unfold typOK at h
  simp only [Bool.or_eq_true, Bool.and_eq_true, decide_eq_true_eq] at h
  rcases h with ⟨h1, h2⟩ | ⟨h1, h2⟩
  · rw [h1, h2]; decide
  · have := wordS_len h1
    have := wordS_len h2
    omega
theorem kind_x (t : TypS) (hs : t.space.length + t.rel.length ≤ 100000) (W : PW) : CallsX Try.prog 152 ⟨[.agg ⟨typC t⟩]⟩ [] W fun v _ => v = strV (kindT t) := by
  obtain ⟨a, b⟩ := t
  dsimp only at hs
  refine pureX hmix Try.func152 r152 (by kernel_rfl) [.agg ⟨typC ⟨a, b⟩⟩] rfl ?_
  unfold kindT
  refine br_split (fun h => ?_) (fun h => ?_)
  · have h : a = [] := h
    exact ret_plain rfl fun _ _ => by rw [if_pos h]; rfl
  · have h : ¬ a = [] := h
    refine ⟨cat_le4 100001 (by show a.length + 1 ≤ _; omega) (by decide), cat_le4 100001 (by show (a ++ [35]).length + b.length ≤ _; simp only [List.length_append, List.length_cons, List.length_nil]; omega) (by decide), ?_⟩
    exact ret_plain rfl fun _ _ => by rw [if_neg h]; rfl

def sepT (i : Nat) : List UInt8 := if i = 0 then [58, 32] else [32, 124, 32]
def typsT : Nat → List TypS → List UInt8
  | _, [] => []
  | i, t :: r => sepT i ++ kindT t ++ typsT (i + 1) r
theorem typsT_snoc : ∀ (l : List TypS) (i : Nat) (t : TypS), typsT i (l ++ [t]) = typsT i l ++ (sepT (i + l.length) ++ kindT t)
  | [], i, t => by simp [typsT]
  | x :: l, i, t => by
    simp only [List.cons_append, typsT, typsT_snoc l, List.length_cons, List.append_assoc]
    rw [show i + 1 + l.length = i + (l.length + 1) by omega]
theorem typsT_len : ∀ (l : List TypS) (i : Nat), (∀ t ∈ l, typOK t = true) → (typsT i l).length ≤ 68 * l.length
  | [], _, _ => by simp [typsT]
  | x :: l, i, h => by
    have h1 := typsT_len l (i + 1) fun t ht => h t (List.mem_cons_of_mem _ ht)
    have h2 := kindT_len (h x (List.mem_cons_self ..))
    have h3 : (sepT i).length ≤ 3 := by unfold sepT; split <;> decide
    simp only [typsT, List.length_append, List.length_cons]; omega
def kRelation' : List UInt8 := [32, 32, 114, 101, 108, 97, 116, 105, 111, 110, 32]
def onlyThis (l : List NodeS) : Bool := match l with | [n] => decide (n.kind = 1) | _ => false
theorem onlyThis_no : ∀ {l : List NodeS}, ¬ l.length = 1 → onlyThis l = false
  | [], _ => rfl
  | [_], h => absurd rfl h
  | _ :: _ :: _, _ => rfl
theorem onlyThis_one : ∀ {l : List NodeS} {n : NodeS}, l.length = 1 → l[0]? = some n → onlyThis l = decide (n.kind = 1)
  | [], _, h, _ => by cases h
  | [_], _, _, h => by simp only [List.getElem?_cons_zero, Option.some.injEq] at h; subst h; rfl
  | _ :: _ :: _, _, h, _ => by simp at h
/-- A relation's line; its nodes are a tree's. -/
def lineT (r : RelS) (t : Tr) : List UInt8 := kRelation' ++ r.name ++ typsT 0 r.types ++ (if onlyThis r.nodes then [] else [32, 61, 32] ++ txtT t) ++ [59, 10]

set_option maxHeartbeats 4000000 in
theorem showline_x (r : RelS) (t : Tr) (hn : r.name.length ≤ 32) (hty : ∀ y ∈ r.types, typOK y = true) (htl : r.types.length ≤ 100) (ht : t.ok) (hs : t.size ≤ 100) (hnd : r.nodes = layN 0 t) (hsm : ∀ n ∈ r.nodes, n.small) (cs : List Value) (W : PW) (h : RelR W r cs) :
    CallsX Try.prog 111 ⟨[.agg ⟨cs⟩]⟩ [] W fun v _ => v = strV (lineT r t) := by
  obtain ⟨tv, nv, rfl, hT, hN⟩ := h
  obtain ⟨nm, ty, nd⟩ := r
  dsimp only at hn hty htl hnd hsm hT hN
  obtain ⟨a1, c1, rfl, _, _⟩ := hT.form
  obtain ⟨a2, c2, rfl, _, _⟩ := hN.form
  have htxt := txtT_len t ht
  have hmax := maxLen_big
  refine pureX hmix Try.func111 r111 (by kernel_rfl) [.agg ⟨[strV nm, .slice a1 ty.length c1, .slice a2 nd.length c2]⟩] rfl ?_
  refine ⟨cat_le4 100 (by show 11 + nm.length ≤ _; omega) (by decide), ?_⟩
  obtain ⟨hd, hhd, hhl⟩ : ∃ hd, kRelation' ++ nm = hd ∧ hd.length ≤ 43 := ⟨_, rfl, by rw [List.length_append]; show 11 + nm.length ≤ 43; omega⟩
  refine ⟨Nat × List UInt8, fun p => [(3, .v (strV p.2)), (12, .v (.int .i64 p.1))], fun _ => [[.v (strV nm), .v (.slice a1 ty.length c1), .v (.slice a2 nd.length c2)]], fun _ => [], fun p _ => p.2 = hd ++ typsT 0 (ty.take p.1) ∧ p.1 ≤ ty.length, fun p => ty.length - p.1, (0, kRelation' ++ nm),
    all_sl ⟨rfl, rfl, trivial⟩, rfl, ole_refl _, ⟨by rw [hhd]; simp [typsT], Nat.zero_le _⟩, loopOK (fun _ => ⟨⟨trivial, rfl⟩, ⟨trivial, rfl⟩, trivial⟩) (fun _ => rfl) (fun _ => rfl), ?_⟩
  rintro ⟨i, acc⟩ Wa la ⟨hacc, hi⟩ fr
  dsimp only at hacc hi
  refine ⟨rfl, br_split (fun hq => ?_) (fun hq => ?_)⟩
  · have hq : (i : Int) < ty.length := hq
    obtain ⟨p1, rfl, y, hy, _, _, hr1⟩ := hT.at (sz := 2) (fun _ => rfl) la (j := i) ⟨by omega, hq⟩
    have hy : ty[i]? = some y := hy
    have hyt := hty y (List.mem_of_getElem? hy)
    have hkl := kindT_len hyt
    have hal : acc.length ≤ 43 + 68 * 100 := by
      have h1 := typsT_len (ty.take i) 0 fun z hz => hty z (List.mem_of_mem_take hz)
      have h2 : (ty.take i).length ≤ 100 := by rw [List.length_take]; omega
      rw [hacc, List.length_append]; omega
    have hnext : hd ++ typsT 0 (ty.take (i + 1)) = acc ++ (sepT i ++ kindT y) := by
      rw [List.take_add_one, hy, Option.toList_some, typsT_snoc, hacc, List.length_take, Nat.min_eq_left (by omega), Nat.zero_add, List.append_assoc]
    have hys := typOK_len hyt
    obtain ⟨ks, hks, hksl⟩ : ∃ ks, kindT y = ks ∧ ks.length ≤ 65 := ⟨_, rfl, hkl⟩
    rw [hks] at hnext
    refine ⟨⟨by omega, hq⟩, p1, rfl, typC y, rfl, hr1.o, ?_⟩
    refine ⟨rfl, br_split (fun h0 => ?_) (fun h0 => ?_)⟩
    · have h0 : (i : Int) = 0 := h0
      refine call_v rfl (fun W' lw => kind_x y (by omega) W') (fun W3 v W4 l3 l4 hv => ?_)
      rw [hks] at hv
      subst hv
      refine ⟨cat_le4 10000 (by show 2 + ks.length ≤ _; omega) (by decide), cat_le4 10000 (by show acc.length + ([58, 32] ++ ks).length ≤ _; simp only [List.length_append, List.length_cons, List.length_nil]; omega) (by decide), ?_⟩
      refine ⟨rfl, _, (i64_in ((i : Int) + 1) ⟨by omega, by omega⟩).symm, (i + 1, acc ++ ([58, 32] ++ ks)), all_sl ⟨rfl, rfl, trivial⟩, rfl, ole_refl _, ⟨?_, by dsimp only; omega⟩, by dsimp only; omega⟩
      dsimp only
      rw [hnext, sepT, if_pos (by omega)]
    · have h0 : ¬ (i : Int) = 0 := h0
      refine call_v rfl (fun W' lw => kind_x y (by omega) W') (fun W3 v W4 l3 l4 hv => ?_)
      rw [hks] at hv
      subst hv
      refine ⟨cat_le4 10000 (by show 3 + ks.length ≤ _; omega) (by decide), cat_le4 10000 (by show acc.length + ([32, 124, 32] ++ ks).length ≤ _; simp only [List.length_append, List.length_cons, List.length_nil]; omega) (by decide), ?_⟩
      refine ⟨rfl, _, (i64_in ((i : Int) + 1) ⟨by omega, by omega⟩).symm, (i + 1, acc ++ ([32, 124, 32] ++ ks)), all_sl ⟨rfl, rfl, trivial⟩, rfl, ole_refl _, ⟨?_, by dsimp only; omega⟩, by dsimp only; omega⟩
      dsimp only
      rw [hnext, sepT, if_neg (by omega)]
  have hq : ¬ (i : Int) < ty.length := hq
  have hie : ty.take i = ty := List.take_of_length_le (by omega)
  rw [hie] at hacc
  have hal : acc.length ≤ 43 + 68 * 100 := by
    have h1 := typsT_len ty 0 hty
    rw [hacc, List.length_append]; omega
  obtain ⟨ts, hts, htsl⟩ : ∃ ts, txtT t = ts ∧ ts.length ≤ 7000 := ⟨_, rfl, by omega⟩
  have hfin : ∀ q : Bool, onlyThis nd = q → lineT ⟨nm, ty, nd⟩ t = acc ++ (if q then [] else [32, 61, 32] ++ ts) ++ [59, 10] := by
    intro q hq
    unfold lineT
    dsimp only
    rw [hq, hts, hacc, ← hhd]
  have tail : ∀ (W' : PW), W.Le W' → CallsX Try.prog 59 ⟨[.slice a2 nd.length c2]⟩ [] W' fun v _ => v = strV ts := fun W' lw =>
    (showexpr_x nd (by rw [hnd, layN_len]; omega) hsm _ W' (hN.mono lw)).mono fun v _ hv => by rw [hv.2 t ht hnd, hts]
  refine ⟨rfl, br_nsplit (fun h1 => ?_) (fun h1 => ?_)⟩
  · have h1 : ¬ (nd.length : Int) = 1 := h1
    refine call_v rfl (fun W' lw => tail W' (la.trans lw)) (fun W3 v W4 l3 l4 hv => ?_)
    subst hv
    refine ⟨cat_le4 10000 (by show 3 + ts.length ≤ _; omega) (by decide), cat_le4 20000 (by show acc.length + ([32, 61, 32] ++ ts).length ≤ _; simp only [List.length_append, List.length_cons, List.length_nil]; omega) (by decide), cat_le4 20000 (by show (acc ++ ([32, 61, 32] ++ ts)).length + 2 ≤ _; simp only [List.length_append, List.length_cons, List.length_nil]; omega) (by decide), ?_⟩
    exact ret_plain rfl fun _ _ => by rw [hfin false (onlyThis_no (by omega))]; rfl
  · have h1 : (nd.length : Int) = 1 := h1
    obtain ⟨p1, rfl, n, hn0, hall, _, _⟩ := hN.at (sz := 5) (fun _ => rfl) la (j := 0) ⟨by omega, by omega⟩
    have hn0 : nd[0]? = some n := hn0
    refine ⟨⟨by decide, by show (0 : Int) < (nd.length : Int); omega⟩, p1, rfl, .int .i64 n.kind, (hall 0 _ rfl).o, rfl, br_nsplit (fun h2 => ?_) (fun h2 => ?_)⟩
    · have h2 : ¬ n.kind = 1 := h2
      refine call_v rfl (fun W' lw => tail W' (la.trans lw)) (fun W3 v W4 l3 l4 hv => ?_)
      subst hv
      refine ⟨cat_le4 10000 (by show 3 + ts.length ≤ _; omega) (by decide), cat_le4 20000 (by show acc.length + ([32, 61, 32] ++ ts).length ≤ _; simp only [List.length_append, List.length_cons, List.length_nil]; omega) (by decide), cat_le4 20000 (by show (acc ++ ([32, 61, 32] ++ ts)).length + 2 ≤ _; simp only [List.length_append, List.length_cons, List.length_nil]; omega) (by decide), ?_⟩
      exact ret_plain rfl fun _ _ => by rw [hfin false (by rw [onlyThis_one (by omega) hn0, decide_eq_false h2])]; rfl
    · have h2 : n.kind = 1 := h2
      refine ⟨cat_le4 20000 (by show acc.length + 2 ≤ _; omega) (by decide), ?_⟩
      exact ret_plain rfl fun _ _ => by rw [hfin true (by rw [onlyThis_one (by omega) hn0, decide_eq_true h2])]; simp [strV]
end Go.Proofs.Ytcgbcbdgjhnlaaa
