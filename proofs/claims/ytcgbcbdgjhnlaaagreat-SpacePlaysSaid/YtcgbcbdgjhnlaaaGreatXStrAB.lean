/- Layer 18 (strata), the document's numbers walked; whether two lists of numbers are the same. No statement is proved here. -/
import Derived.Test.YtcgbcbdgjhnlaaaGreatXMG
import Derived.Test.YtcgbcbdgjhnlaaaGreatXStrK
import Derived.Test.YtcgbcbdgjhnlaaaGreatXMH
namespace Go.Proofs.YtcgbcbdgjhnlaaaGreat
open Go.RowKit

theorem RowR.mono (W W' : PW) (x : List Nat) (c : List Value) (l : W.Le W') (h : RowR W x c) : RowR W' x c := let ⟨u, e, h⟩ := h; ⟨u, e, h.mono l⟩
theorem edges_ok {T : List NodeS → Tr} (hT : TreeF T) {x : ConfS} (hg : GoodC x) (h : (edgesD T x).2 = true) : ∀ e ∈ (edgesD T x).1, e.f < (allD x).length ∧ 0 ≤ e.t ∧ e.t < (allD x).length := by
  intro e he
  rcases all_sim hT hg with ⟨es, h1, _, h3⟩ | ⟨_, h2⟩
  · rw [← h3] at he
    obtain ⟨q, hq, rfl⟩ := List.mem_map.1 he
    obtain ⟨⟨r1, k1⟩, r2, k2⟩ := allE_has h1 q hq
    have i1 := ix_lt k1
    have i2 := ix_lt k2
    exact ⟨i1, Int.natCast_nonneg _, by show ((ixS x q.ts : Nat) : Int) < _; omega⟩
  · rw [h] at h2; cases h2
theorem edges_len {T : List NodeS → Tr} (hT : TreeF T) {x : ConfS} (hg : GoodC x) : (edgesD T x).1.length ≤ 20000000 := by
  obtain ⟨h1, h2⟩ := allD_good hg
  have h3 := upD_len hT h2 (allD x).length (Nat.le_refl _)
  have h4 : (edgesD T x).1.length ≤ (allD x).length * 64000 := h3
  omega
theorem allD_len {x : ConfS} (hB : BdC x) : (allD x).length ≤ 1000000 := by
  have h1 := allP_le (n := 1000) fun s hs => (hB.2.2 s hs).1
  have h2 := hB.1
  have h3 : (allD x).length ≤ x.spaces.length * 1000 := h1
  omega

def rwO (A : Option Addr) (n c : Nat) (xs : List Nat) : Own := ⟨.slice A n c, 3, 1, n, xs.map natV⟩
def outR (A : Option Addr) (n c : Nat) (css : List (List Value)) : Own := ⟨.slice A n c, 91, 1, n, css.flatten⟩
def RwO (r : List Nat) (c : List Value) (o : Own) : Prop := c = [o.v] ∧ o.n = r.length ∧ o.cs = r.map natV
def RInv (xs : Num) (css : List (List Value)) (d : List Own) : Prop := css.length = xs.length ∧ ∀ (k : Nat) (r : List Nat) (c : List Value), xs[k]? = some r → css[k]? = some c → ∃ o, o ∈ d ∧ RwO r c o
theorem RInv.snoc {xs : Num} {css : List (List Value)} {d : List Own} (h : RInv xs css d) {r : List Nat} {c : List Value} {o : Own} (hs : RwO r c o) : RInv (xs ++ [r]) (css ++ [c]) (o :: d) := by
  refine ⟨by simp [h.1], fun k y e hy he => ?_⟩
  by_cases hk : k < xs.length
  · rw [List.getElem?_append_left hk] at hy
    rw [List.getElem?_append_left (by rw [h.1]; exact hk)] at he
    obtain ⟨p, hp, hq⟩ := h.2 k y e hy he
    exact ⟨p, List.mem_cons_of_mem _ hp, hq⟩
  · rw [List.getElem?_append_right (by omega)] at hy
    rw [List.getElem?_append_right (by rw [h.1]; omega), h.1] at he
    obtain ⟨j, hj⟩ : ∃ j, k - xs.length = j := ⟨_, rfl⟩
    rw [hj] at hy he
    cases j with
    | zero =>
      simp only [List.getElem?_cons_zero, Option.some.injEq] at hy he
      subst hy he
      exact ⟨o, List.mem_cons_self .., hs⟩
    | succ j => simp at hy
theorem RInv.num {W : PW} {xs : Num} {css : List (List Value)} {d : List Own} {A : Option Addr} {n c : Nat} (h : RInv xs css d) (hn : n = xs.length) (hf : ∀ o ∈ outR A n c css :: d, SlRead W o.v o.n o.cs) : NumR W (.slice A n c) xs := by
  have h0 : SlRead W (.slice A n c) n css.flatten := hf (outR A n c css) (List.mem_cons_self ..)
  rw [hn] at h0 ⊢
  refine ⟨css, LR.of_get h.1 fun k r cc h1 h2 => ?_, h0⟩
  obtain ⟨o, h3, h4, h5, h6⟩ := h.2 k r cc h1 h2
  have h7 := hf o (List.mem_cons_of_mem _ h3)
  subst h4
  refine ⟨rfl, o.v, rfl, ?_⟩
  show SlRead W o.v r.length (r.map natC).flatten
  rw [flat_nat, ← h5, ← h6]
  exact h7
theorem tab_succ (k : Nat) (y : Nat → Nat) : tabL (k + 1) y = tabL k y ++ [y k] := by
  unfold tabL
  rw [List.range_succ, List.map_append, List.map_singleton]
structure DnSt where
  i : Nat
  A : Option Addr
  c : Nat
  d : List Own
  css : List (List Value)
structure DrSt where
  k : Nat
  A : Option Addr
  c : Nat
set_option maxRecDepth 20000 in
set_option maxHeartbeats 16000000 in
theorem dnumbers_x {T : List NodeS → Tr} (hT : TreeF T) (x : ConfS) (cs : List Value) (W : PW) (hok : okCB x) (hB : BdC x) (h : ConfR W x cs) : CallsX Tryz.prog 21 ⟨[.agg ⟨cs⟩]⟩ [] W fun v W' => ∃ u, v = .tuple ⟨[u, .int .i64 (numbersD T x).2]⟩ ∧ NumR W' u (numbersD T x).1 := by
  have hnil : ∀ W', NumR W' (.slice none 0 0) [] := fun W' => ⟨[], trivial, SlRead.nil W' _⟩
  have hmax : (10000000 : Nat) ≤ maxLen := by decide
  have hC := h
  obtain ⟨sv, kv, rfl, hS, hK⟩ := h
  obtain ⟨a1, c1, rfl, _, _⟩ := hS.form
  obtain ⟨a2, c2, rfl, _, _⟩ := hK.form
  have hlen := allD_len hB
  have hns := hB.1
  obtain ⟨R, hR⟩ : ∃ R, numbersD T x = R := ⟨_, rfl⟩
  have hdef : R = (if rightN x = false then (([], 4) : Num × Int) else if onceS x = false then (([], 10) : Num × Int) else if (edgesD T x).2 = false then (([], 14) : Num × Int) else
    if (List.range (allD x).length).all (okL ((edgesD T x).1.map feD) (allD x).length) = false then (([], 15) : Num × Int) else (rowsF x (lev ((edgesD T x).1.map feD) ((allD x).length + 1)), 0)) := by rw [← hR]; rfl
  rw [hR]
  refine pureNX hmix Tryz.func21 r21 (by kernel_rfl) [nilO 91 1] rfl [.agg ⟨[.slice a1 x.spaces.length c1, .slice a2 x.scopes.length c2]⟩] rfl ?_
  refine call_b rfl (fun W' lw => dright_x x _ hok W' (ConfR.mono _ _ _ _ lw hC)) (fun hr W1 l1 => ?_) (fun hr W1 l1 => ?_)
  · exact ret_plain rfl fun W' _ => by rw [hdef, if_pos hr]; exact ⟨_, rfl, hnil W'⟩
  rw [if_neg (by rw [hr]; decide)] at hdef
  have hg := right_good hr
  refine call_b rfl (fun W' lw => twice_x x _ W' hB hlen (ConfR.mono _ _ _ _ (l1.trans lw) hC)) (fun ho W2 l2 => ?_) (fun ho W2 l2 => ?_)
  rotate_left
  · have ho : onceS x = false := by rw [Bool.not_eq_true'] at ho; exact ho
    exact ret_plain rfl fun W' _ => by rw [hdef, if_pos ho]; exact ⟨_, rfl, hnil W'⟩
  have ho : onceS x = true := by rw [Bool.not_eq_false'] at ho; exact ho
  rw [if_neg (by rw [ho]; decide)] at hdef
  have hE := edges_ok hT hg
  have hEl := edges_len hT hg
  have hl2 := (allD_good hg).1
  obtain ⟨Q, hQ⟩ : ∃ Q, edgesD T x = Q := ⟨_, rfl⟩
  have hce := fun W' h => dedges_x hT x [.slice a1 x.spaces.length c1, .slice a2 x.scopes.length c2] W' hg hB h
  rw [hQ] at hE hEl hdef hce
  refine call_v rfl (fun W' lw => hce W' (ConfR.mono _ _ _ _ (l1.trans (l2.trans lw)) hC)) (fun W3 v3 W4 l3 l4 hv3 => ?_)
  obtain ⟨es, ok⟩ := Q
  dsimp only at hE hEl hdef hv3
  obtain ⟨y, rfl, hy⟩ := hv3
  refine ⟨_, rfl, _, rfl, ?_⟩
  cases ok with
  | false => exact ret_plain rfl fun W' _ => by rw [hdef, if_pos rfl]; exact ⟨_, rfl, hnil W'⟩
  | true =>
  rw [if_neg (by decide)] at hdef
  have hE := hE rfl
  have l04 := l1.trans (l2.trans (l3.trans l4))
  refine call_v rfl (fun W' lw => alld_x x _ W' hB (ConfR.mono _ _ _ _ (l04.trans lw) hC)) (fun W5 v5 W6 l5 l6 hv5 => ?_)
  obtain ⟨a3, c3, rfl, _, _⟩ := hv5.form
  obtain ⟨n, hn⟩ : ∃ n, (allD x).length = n := ⟨_, rfl⟩
  obtain ⟨E, hEE⟩ : ∃ E, es.map feD = E := ⟨_, rfl⟩
  have hixn : ∀ (i k : Nat) (s : SpaceS), x.spaces[i]? = some s → k < s.rels.length → (allP (x.spaces.take i)).length + k < n := fun i k s hi hk => by
    have hr : relAt x (i, k) = some s.rels[k] := by unfold relAt; rw [hi]; exact List.getElem?_eq_getElem hk
    have := ix_lt hr
    rw [hn] at this
    exact this
  rw [hn] at hE hl2 ⊢
  rw [hn, hEE] at hdef
  obtain ⟨M, hM⟩ : ∃ M, n + 1 = M := ⟨_, rfl⟩
  have hMI : (M : Int) = IntKind.i64.wrap ((n : Int) + 1) := by rw [i64_in ((n : Int) + 1) ⟨by omega, by omega⟩]; omega
  have hMM : M * M ≤ 257 * 257 := Nat.mul_le_mul (by omega) (by omega)
  obtain ⟨Z, hZ⟩ : ∃ Z, M * M = Z := ⟨_, rfl⟩
  rw [hZ] at hMM
  have hZI : (Z : Int) = IntKind.i64.wrap ((M : Int) * (M : Int)) := by
    have e : (M : Int) * (M : Int) = ((M * M : Nat) : Int) := (Int.natCast_mul M M).symm
    rw [e, hZ, i64_in _ ⟨by omega, by omega⟩]
  have hokL : ∀ i, okL E n i = (decide (lev E M i = lev E Z i) && decide (lev E M i < n)) := fun i => by unfold okL; rw [hM, hZ]
  rw [hM] at hdef
  have l06 := l04.trans (l5.trans l6)
  have hy6 := hy.mono (l5.trans l6)
  refine ⟨rfl, _, hMI, ?_⟩
  refine call_v rfl (fun W' lw => level_x es n M _ W' (by omega) (by omega) (by omega) hE (hy6.mono lw)) (fun W7 v7 W8 l7 l8 hv7 => ?_)
  rw [hEE] at hv7
  refine ⟨rfl, _, hMI, rfl, _, hMI, rfl, _, hZI, ?_⟩
  refine call_v rfl (fun W' lw => level_x es n Z _ W' (by omega) (by omega) (by omega) hE (hy6.mono (l7.trans (l8.trans lw)))) (fun W9 v9 W10 l9 l10 hv9 => ?_)
  rw [hEE] at hv9
  have hv7 := hv7.mono (l9.trans l10)
  obtain ⟨a7, c7, e7, _, _⟩ := hv7.form
  obtain ⟨a9, c9, e9, _, _⟩ := hv9.form
  rw [tab_len] at e7 e9
  subst e7 e9
  refine ⟨Nat, fun i => [(9, .v (.int .i64 i))], fun _ => [[.v (.slice a1 x.spaces.length c1), .v (.slice a2 x.scopes.length c2)]], fun _ => [outR none 0 0 []], fun i _ => i ≤ n ∧ ∀ k < i, okL E n k = true, fun i => n - i, 0,
    all_sl ⟨rfl, trivial⟩, rfl, ole_refl _, ⟨Nat.zero_le _, fun _ h => absurd h (Nat.not_lt_zero _)⟩, loopOK (fun _ => ⟨⟨trivial, rfl⟩, trivial⟩) (fun _ => rfl) (fun _ => rfl), ?_⟩
  rintro i W11 l11 ⟨hi, hI⟩ fr
  refine ⟨rfl, ?_⟩
  apply br_split
  · intro hq
    have hq : (i : Int) < n := hq
    have inc := (i64_in ((i : Int) + 1) ⟨by omega, by omega⟩).symm
    obtain ⟨p7, rfl, X, hX, _, _, hr7⟩ := RP.at (f := natC) (sz := 1) (fun _ => rfl) hv7 l11 (j := (i : Int)) ⟨by omega, hq⟩
    obtain ⟨p9, rfl, Y, hY, _, _, hr9⟩ := RP.at (f := natC) (sz := 1) (fun _ => rfl) hv9 l11 (j := (i : Int)) ⟨by omega, hq⟩
    have hX : (tabL n (lev E M))[i]? = some X := hX
    have hY : (tabL n (lev E Z))[i]? = some Y := hY
    rw [tab_get _ (by omega)] at hX hY
    have hX : lev E M i = X := Option.some.inj hX
    have hY : lev E Z i = Y := Option.some.inj hY
    have hx7 : Rd W11 (p7.add ((i : Int).toNat * 1)) (natV X) := by have h := hr7 0 _ rfl; rw [Addr.add_add] at h; exact h
    have hx9 : Rd W11 (p9.add ((i : Int).toNat * 1)) (natV Y) := by have h := hr9 0 _ rfl; rw [Addr.add_add] at h; exact h
    have hoi := hokL i
    rw [hX, hY] at hoi
    have bad : okL E n i = false → R = ([], 15) := fun hb => by rw [hdef, if_pos (all_no (List.mem_range.2 (show i < n by omega)) hb)]
    refine ⟨⟨by omega, hq⟩, p7, rfl, natV X, hx7.o, ⟨by omega, hq⟩, p9, rfl, natV Y, hx9.o, rfl, ?_⟩
    apply br_nsplit
    · intro he
      have he : ¬ (X : Int) = Y := he
      have hb : okL E n i = false := by rw [hoi, decide_eq_false (by omega)]; rfl
      exact ret_plain rfl fun W' _ => by rw [bad hb]; exact ⟨_, rfl, hnil W'⟩
    · intro he
      have he : (X : Int) = Y := he
      refine ⟨⟨by omega, hq⟩, p7, rfl, natV X, hx7.o, rfl, ?_⟩
      apply br_split
      · intro hg2
        have hg2 : (X : Int) ≥ n := hg2
        have hb : okL E n i = false := by rw [hoi, decide_eq_false (p := X < n) (by omega), Bool.and_false]
        exact ret_plain rfl fun W' _ => by rw [bad hb]; exact ⟨_, rfl, hnil W'⟩
      · intro hg2
        have hg2 : ¬ (X : Int) ≥ n := hg2
        have hb : okL E n i = true := by rw [hoi, decide_eq_true (by omega), decide_eq_true (by omega)]; rfl
        refine ⟨rfl, _, inc, i + 1, all_sl ⟨rfl, trivial⟩, rfl, ole_refl _, ⟨by omega, fun k hk => ?_⟩, by dsimp only; omega⟩
        rcases Nat.lt_or_ge k i with h1 | h1
        · exact hI k h1
        · obtain rfl : k = i := by omega
          exact hb
  · intro hq
    have hq : ¬ (i : Int) < n := hq
    have hall : (List.range n).all (okL E n) = true := List.all_eq_true.2 fun k hk => hI k (by have := List.mem_range.1 hk; omega)
    rw [if_neg (by rw [hall]; decide)] at hdef
    have hv7 := hv7.mono l11
    have l11' := l06.trans (l7.trans (l8.trans (l9.trans (l10.trans l11))))
    refine ⟨DnSt, fun t => [(10, .v (.slice t.A t.i t.c)), (11, .v (.int .i64 ((allP (x.spaces.take t.i)).length : Nat))), (12, .v (.int .i64 t.i))], fun _ => [[.v (.slice a1 x.spaces.length c1), .v (.slice a2 x.scopes.length c2)]], fun t => outR t.A t.i t.c t.css :: t.d, fun t _ => t.i ≤ x.spaces.length ∧ RInv ((List.range t.i).map (rowF x (lev E M))) t.css t.d, fun t => x.spaces.length - t.i, ⟨0, none, 0, [], []⟩,
      all_sl ⟨rfl, rfl, rfl, trivial⟩, rfl, ole_refl _, ⟨Nat.zero_le _, rfl, fun k r c h => by simp at h⟩, loopOK (fun _ => ⟨⟨trivial, rfl⟩, ⟨trivial, rfl⟩, ⟨trivial, rfl⟩, trivial⟩) (fun _ => rfl) (fun _ => rfl), ?_⟩
    rintro ⟨j, A, c, d, css⟩ W12 l12 ⟨hj, hF⟩ fr2
    dsimp only at hj hF
    refine ⟨rfl, ?_⟩
    apply br_split
    · intro hqj
      have hqj : (j : Int) < x.spaces.length := hqj
      have incj := (i64_in ((j : Int) + 1) ⟨by omega, by omega⟩).symm
      obtain ⟨pc, rfl, s, ds, hx, _, ⟨rv, hds, hRl⟩, hrd, _⟩ := hS.at SpR.mono (l11'.trans l12) (j := (j : Int)) ⟨by omega, hqj⟩
      have hx : x.spaces[j]? = some s := hx
      have hix := fun k hk => hixn j k s hx hk
      have hoff : (allP (x.spaces.take (j + 1))).length = (allP (x.spaces.take j)).length + s.rels.length := by rw [allP_snoc hx, List.length_append, List.length_map]
      have hrl : rowL x j = s.rels.length := by unfold rowL; rw [hx]; rfl
      have hrlen := (hB.2.2 s (List.mem_of_getElem? hx)).1
      have hRn : (List.range (j + 1)).map (rowF x (lev E M)) = (List.range j).map (rowF x (lev E M)) ++ [rowF x (lev E M) j] := by rw [List.range_succ, List.map_append, List.map_singleton]
      have hrow : rowF x (lev E M) j = tabL s.rels.length fun k => lev E M ((allP (x.spaces.take j)).length + k) := by unfold rowF tabL; rw [hrl]
      obtain ⟨o, ho2⟩ : ∃ o, (allP (x.spaces.take j)).length = o := ⟨_, rfl⟩
      obtain ⟨m, hm⟩ : ∃ m, s.rels.length = m := ⟨_, rfl⟩
      rw [hm] at hix hoff hrlen hrow
      rw [ho2] at hix hoff hrow
      obtain ⟨ra, rc, rfl, _, _⟩ := hRl.form
      subst hds
      rw [hm] at hrd
      have ho3 : o + m ≤ 256 := by
        rcases Nat.eq_zero_or_pos m with h0 | h0
        · have h1 : (allP (x.spaces.take j)).length ≤ (allP x.spaces).length := by
            conv => rhs; rw [← List.take_append_drop j x.spaces, allP_app, List.length_append]
            omega
          have h2 : (allP x.spaces).length = n := hn
          omega
        · have := hix (m - 1) (by omega)
          omega
      refine ⟨DrSt, fun t => [(11, .v (.int .i64 ((o + t.k : Nat) : Int))), (13, .v (.slice t.A t.k t.c)), (14, .v (.int .i64 t.k))], fun _ => [[.v (.slice (some pc) x.spaces.length c1), .v (.slice a2 x.scopes.length c2)]], fun t => outR A j c css :: rwO t.A t.k t.c (tabL t.k fun k => lev E M (o + k)) :: d, fun t _ => t.k ≤ m, fun t => m - t.k, ⟨0, none, 0⟩,
        all_sl ⟨by subst ho2; rfl, rfl, rfl, trivial⟩, rfl, ole_ins 3 1, Nat.zero_le _, loopOK (fun _ => ⟨⟨trivial, rfl⟩, ⟨trivial, rfl⟩, ⟨trivial, rfl⟩, trivial⟩) (fun _ => rfl) (fun _ => rfl), ?_⟩
      rintro ⟨k, A2, d2⟩ W13 l13 hk fr3
      dsimp only at hk
      refine ⟨⟨by omega, hqj⟩, pc, rfl, .slice ra m rc, ((hrd 1 _ rfl).mono l13).o, rfl, ?_⟩
      apply br_split
      · intro hqk
        have hqk : (k : Int) < m := hqk
        have inck := (i64_in ((k : Int) + 1) ⟨by omega, by omega⟩).symm
        have inca : ((o + (k + 1) : Nat) : Int) = IntKind.i64.wrap (((o + k : Nat) : Int) + 1) := by rw [i64_in (((o + k : Nat) : Int) + 1) ⟨by omega, by omega⟩]; omega
        have hok2 := hix k (by omega)
        obtain ⟨p7, rfl, X, hX, _, _, hr7⟩ := RP.at (f := natC) (sz := 1) (fun _ => rfl) hv7 (l12.trans l13) (j := ((o + k : Nat) : Int)) ⟨by omega, by omega⟩
        have hX : (tabL n (lev E M))[o + k]? = some X := hX
        rw [tab_get _ (by omega)] at hX
        have hX : lev E M (o + k) = X := Option.some.inj hX
        have hx7 : Rd W13 (p7.add (((o + k : Nat) : Int).toNat * 1)) (natV X) := by have h := hr7 0 _ rfl; rw [Addr.add_add] at h; exact h
        refine ⟨⟨by omega, by show ((o + k : Nat) : Int) < n; omega⟩, p7, rfl, natV X, hx7.o, rfl, .inl fun bd Wd ld hrd2 => ⟨1, _, [natV X], rfl, rfl, rfl, rfl, rfl, (fun u hu => by rw [List.mem_singleton.1 hu]; rfl), fun _ => ⟨_, rfl, hrd2.o⟩, by show k + 1 ≤ maxLen; omega, by show (k + 1) * 8 ≤ 140737488355328; omega, rfl, @fun Ae ce _ => ?_⟩⟩
        refine ⟨rfl, _, inca, rfl, _, inck, ⟨k + 1, Ae, ce⟩, all_sl ⟨rfl, rfl, rfl, trivial⟩, rfl, ole_eq ?_, by dsimp only; omega, by dsimp only; omega⟩
        have e : (tabL (k + 1) fun k => lev E M (o + k)).map natV = (tabL k fun k => lev E M (o + k)).map natV ++ [natV X] := by rw [tab_succ, List.map_append, List.map_singleton, hX]
        show _ = [outR A j c css, rwO Ae (k + 1) ce (tabL (k + 1) fun k => lev E M (o + k))] ++ d
        unfold rwO
        rw [e]
        rfl
      · intro hqk
        have hqk : ¬ (k : Int) < m := hqk
        obtain rfl : k = m := by omega
        refine ⟨rfl, .inl fun bd Wd ld hrd2 => ⟨0, _, [.slice A2 k d2], rfl, rfl, rfl, rfl, rfl, (fun u hu => by rw [List.mem_singleton.1 hu]; rfl), fun _ => ⟨_, rfl, hrd2.o⟩, by show j + 1 ≤ maxLen; omega, by show (j + 1) * 24 ≤ 140737488355328; omega, rfl, @fun Ae ce _ => ?_⟩⟩
        refine ⟨rfl, _, incj, ⟨j + 1, Ae, ce, rwO A2 k d2 (tabL k fun k => lev E M (o + k)) :: d, css ++ [[.slice A2 k d2]]⟩, all_sl ⟨rfl, Eq.trans (b := GV.v (.int .i64 ((o + k : Nat) : Int))) rfl (by rw [hoff]), rfl, trivial⟩, rfl, ole_eq ?_, ⟨by dsimp only; omega, ?_⟩, by dsimp only; omega⟩
        · have e : (css ++ [[Value.slice A2 k d2]]).flatten = css.flatten ++ [.slice A2 k d2] := by simp
          unfold outR
          dsimp only
          rw [e]
          rfl
        · dsimp only
          rw [hRn, hrow]
          exact hF.snoc ⟨rfl, (tab_len _ _).symm, rfl⟩
    · intro hqj
      have hqj : ¬ (j : Int) < x.spaces.length := hqj
      obtain rfl : j = x.spaces.length := by omega
      refine RetVC.freezeAll (fun _ hb => hb) fun W14 l14 hfz => ?_
      refine ret_plain rfl fun W15 l15 => ?_
      rw [hdef]
      refine ⟨_, rfl, ?_⟩
      exact RInv.num hF (by show x.spaces.length = ((List.range x.spaces.length).map (rowF x (lev E M))).length; rw [List.length_map, List.length_range]) fun o ho => SlRead.mono (hfz o ho) l15

set_option maxRecDepth 20000 in
set_option maxHeartbeats 16000000 in
theorem dsame_x (num : Num) (u v : Value) (W : PW) (hl : num.length ≤ 1000000 ∧ ∀ r ∈ num, r.length ≤ 1000000) (hu : NumR W u num) (hv : NumR W v num) : CallsX Tryz.prog 28 ⟨[u, v]⟩ [] W fun v _ => v = .bool true := by
  obtain ⟨a1, c1, rfl, _, _⟩ := RL.form hu
  obtain ⟨a2, c2, rfl, _, _⟩ := RL.form hv
  have hn := hl.1
  refine pureX hmix Tryz.func28 r28 (by kernel_rfl) [.slice a1 num.length c1, .slice a2 num.length c2] rfl ?_
  refine ⟨rfl, ?_⟩
  apply br_nsplit
  · intro h; exact absurd rfl h
  intro _
  refine ⟨Nat, fun i => [(5, .v (.int .i64 i))], fun _ => [], fun _ => [], fun i _ => i ≤ num.length, fun i => num.length - i, 0,
    all_sl ⟨rfl, trivial⟩, rfl, ole_refl _, Nat.zero_le _, loopOK (fun _ => ⟨⟨trivial, rfl⟩, trivial⟩) (fun _ => rfl) (fun _ => rfl), ?_⟩
  rintro i W1 l1 hi fr
  refine ⟨rfl, ?_⟩
  apply br_split
  · intro hq
    have hq : (i : Int) < num.length := hq
    have inc := (i64_in ((i : Int) + 1) ⟨by omega, by omega⟩).symm
    obtain ⟨p1, rfl, r, cs1, hr, _, ⟨u1, rfl, hu1⟩, _, hd1⟩ := RL.at RowR.mono hu l1 (j := (i : Int)) ⟨by omega, hq⟩
    obtain ⟨p2, rfl, r2, cs2, hr2, _, ⟨u2, rfl, hu2⟩, _, hd2⟩ := RL.at RowR.mono hv l1 (j := (i : Int)) ⟨by omega, hq⟩
    have hr : num[i]? = some r := hr
    have hr2 : num[i]? = some r2 := hr2
    rw [hr] at hr2
    obtain rfl := Option.some.inj hr2
    have hrl := hl.2 r (List.mem_of_getElem? hr)
    obtain ⟨b1, d1, rfl, _, _⟩ := hu1.form
    obtain ⟨b2, d2, rfl, _, _⟩ := hu2.form
    have hx1 : Rd W1 (p1.add ((i : Int).toNat * 1)) (.slice b1 r.length d1) := by have h := hd1 0 _ rfl; rw [Addr.add_add] at h; exact h
    have hx2 : Rd W1 (p2.add ((i : Int).toNat * 1)) (.slice b2 r.length d2) := by have h := hd2 0 _ rfl; rw [Addr.add_add] at h; exact h
    refine ⟨⟨by omega, hq⟩, p1, rfl, .slice b1 r.length d1, hx1.o, ⟨by omega, hq⟩, p2, rfl, .slice b2 r.length d2, hx2.o, rfl, ?_⟩
    apply br_nsplit
    · intro h; exact absurd rfl h
    intro _
    refine ⟨Nat, fun i => [(6, .v (.int .i64 i))], fun _ => [], fun _ => [], fun k _ => k ≤ r.length, fun k => r.length - k, 0,
      all_sl ⟨rfl, trivial⟩, rfl, ole_refl _, Nat.zero_le _, loopOK (fun _ => ⟨⟨trivial, rfl⟩, trivial⟩) (fun _ => rfl) (fun _ => rfl), ?_⟩
    rintro k W2 l2 hk fr2
    refine ⟨⟨by omega, hq⟩, p1, rfl, .slice b1 r.length d1, (hx1.mono l2).o, rfl, ?_⟩
    apply br_split
    · intro hqk
      have hqk : (k : Int) < r.length := hqk
      have inck := (i64_in ((k : Int) + 1) ⟨by omega, by omega⟩).symm
      obtain ⟨q1, rfl, X, hX, _, _, hr7⟩ := RP.at (f := natC) (sz := 1) (fun _ => rfl) hu1 l2 (j := (k : Int)) ⟨by omega, hqk⟩
      obtain ⟨q2, rfl, Y, hY, _, _, hr9⟩ := RP.at (f := natC) (sz := 1) (fun _ => rfl) hu2 l2 (j := (k : Int)) ⟨by omega, hqk⟩
      rw [hX] at hY
      obtain rfl := Option.some.inj hY
      have hx7 : Rd W2 (q1.add ((k : Int).toNat * 1)) (natV X) := by have h := hr7 0 _ rfl; rw [Addr.add_add] at h; exact h
      have hx9 : Rd W2 (q2.add ((k : Int).toNat * 1)) (natV X) := by have h := hr9 0 _ rfl; rw [Addr.add_add] at h; exact h
      refine ⟨⟨by omega, hq⟩, p1, rfl, .slice (some q1) r.length d1, (hx1.mono l2).o, ⟨by omega, hqk⟩, q1, rfl, natV X, hx7.o, ⟨by omega, hq⟩, p2, rfl, .slice (some q2) r.length d2, (hx2.mono l2).o, ⟨by omega, hqk⟩, q2, rfl, natV X, hx9.o, rfl, ?_⟩
      apply br_nsplit
      · intro h; exact absurd rfl h
      intro _
      exact ⟨rfl, _, inck, k + 1, all_sl ⟨rfl, trivial⟩, rfl, ole_refl _, by omega, by dsimp only; omega⟩
    · intro hqk
      have hqk : ¬ (k : Int) < r.length := hqk
      exact ⟨rfl, _, inc, i + 1, all_sl ⟨rfl, trivial⟩, rfl, ole_refl _, by omega, by dsimp only; omega⟩
  · intro hq
    exact ret_plain rfl fun _ _ => rfl
end Go.Proofs.YtcgbcbdgjhnlaaaGreat
