/- Layer 18 (strata), the document's reckoning of numbers walked: so many steps, all at once. No statement is proved here. -/
import Derived.Test.YtcgbcbdgjhnlaaaVStrV
import Derived.Test.YtcgbcbdgjhnlaaaVStrZ
namespace Go.Proofs.Ytcgbcbdgjhnlaaa
open Go.RowKit

def nowO (g n : Nat) (xs : List Nat) : Own := ⟨.slice (some ⟨g, 0, none⟩) n n, 3, 1, n, xs.map natV⟩
def tabL (n : Nat) (x : Nat → Nat) : List Nat := (List.range n).map x
theorem tab_len (n : Nat) (x : Nat → Nat) : (tabL n x).length = n := by unfold tabL; rw [List.length_map, List.length_range]
theorem tab_get {n k : Nat} (x : Nat → Nat) (h : k < n) : (tabL n x)[k]? = some (x k) := by
  unfold tabL
  rw [List.getElem?_map, List.getElem?_range h]; rfl
theorem tab_zero (n : Nat) : tabL n (fun _ => 0) = List.replicate n 0 := by
  apply List.ext_getElem?
  intro k
  rcases Nat.lt_or_ge k n with h | h
  · rw [tab_get _ h, List.getElem?_replicate, if_pos h]
  · rw [List.getElem?_eq_none (by rw [tab_len]; exact h), List.getElem?_eq_none (by rw [List.length_replicate]; exact h)]
theorem tab_set {n f v : Nat} {x y : Nat → Nat} (h : ∀ k, y k = if k = f then v else x k) : tabL n y = (tabL n x).set f v := by
  apply List.ext_getElem?
  intro k
  rw [List.getElem?_set]
  rcases Nat.lt_or_ge k n with hk | hk
  · rw [tab_get _ hk, h k]
    by_cases e : k = f
    · subst e
      rw [if_pos rfl, if_pos rfl, if_pos (by rw [tab_len]; exact hk)]
    · rw [if_neg e, if_neg (fun e2 => e e2.symm), tab_get _ hk]
  · rw [List.getElem?_eq_none (by rw [tab_len]; exact hk)]
    split
    · rw [if_neg (by rw [tab_len]; omega)]
    · rw [List.getElem?_eq_none (by rw [tab_len]; exact hk)]
theorem tab_congr {n : Nat} {x y : Nat → Nat} (h : ∀ k, y k = x k) : tabL n y = tabL n x := by rw [funext h]
theorem natV_get {n k : Nat} (x : Nat → Nat) (h : k < n) : ((tabL n x).map natV)[k * 1]? = some (natV (x k)) := by
  rw [Nat.mul_one, List.getElem?_map, tab_get _ h]; rfl
structure LvSt where
  s : Nat
  g : Nat
set_option maxRecDepth 20000 in
set_option maxHeartbeats 16000000 in
theorem level_x (es : List DE) (n steps : Nat) (u : Value) (W : PW) (hes : es.length ≤ 100000000) (hn : n ≤ 1000000) (hst : steps ≤ 1000000000000) (hE : ∀ e ∈ es, e.f < n ∧ 0 ≤ e.t ∧ e.t < n) (hu : RP deC W u es) :
    CallsX Try.prog 122 ⟨[u, .int .i64 n, .int .i64 steps]⟩ [] W fun v W' => RP natC W' v (tabL n (lev (es.map feD) steps)) := by
  have hmax : (100000000 : Nat) ≤ maxLen := by decide
  obtain ⟨A0, c0, rfl, _, _⟩ := hu.form
  obtain ⟨E, hEE⟩ : ∃ E, es.map feD = E := ⟨_, rfl⟩
  rw [hEE]
  refine pureX hmix Try.func122 r122 (by kernel_rfl) [.slice A0 es.length c0, .int .i64 n, .int .i64 steps] rfl ?_
  refine ⟨⟨by omega, by omega, by omega, by omega⟩, fun g0 => ?_⟩
  refine ⟨LvSt, fun t => [(7, .v (.slice (some ⟨t.g, 0, none⟩) n n)), (8, .v (.int .i64 t.s))], fun _ => [], fun t => [nowO t.g n (tabL n (lev E t.s))], fun t _ => t.s ≤ steps, fun t => steps - t.s, ⟨0, g0⟩,
    all_sl ⟨rfl, rfl, trivial⟩, rfl, ole_eq ?_, Nat.zero_le _, loopOK (fun _ => ⟨⟨trivial, rfl⟩, ⟨trivial, rfl⟩, trivial⟩) (fun _ => rfl) (fun _ => rfl), ?_⟩
  · have e : (List.replicate n [Value.int .i64 0]).flatten = (tabL n (lev E 0)).map natV := by rw [int_zeros, ← tab_zero]; rfl
    exact congrArg (fun cs => [(⟨.slice (some ⟨g0, 0, none⟩) n n, 3, 1, n, cs⟩ : Own)]) e
  rintro ⟨s, g⟩ W1 l1 hs fr
  dsimp only at hs
  refine ⟨rfl, ?_⟩
  apply br_split
  · intro hq
    have hq : (s : Int) < steps := hq
    have inc := (i64_in ((s : Int) + 1) ⟨by omega, by omega⟩).symm
    refine ⟨⟨by omega, by omega, by omega, by omega⟩, fun g2 => ?_⟩
    refine ⟨Nat, fun i => [(10, .v (.int .i64 i))], fun _ => [], fun i => [nowO g n (tabL n (lev E s)), nowO g2 n (tabL n fun k => askF (lev E s) k (E.take i))], fun i _ => i ≤ es.length, fun i => es.length - i, 0,
      all_sl ⟨rfl, trivial⟩, rfl, ole_eq ?_, Nat.zero_le _, loopOK (fun _ => ⟨⟨trivial, rfl⟩, trivial⟩) (fun _ => rfl) (fun _ => rfl), ?_⟩
    · have e : (List.replicate n [Value.int .i64 0]).flatten = (tabL n fun k => askF (lev E s) k (E.take 0)).map natV := by rw [int_zeros, ← tab_zero]; rfl
      exact congrArg (fun cs => [nowO g n (tabL n (lev E s)), (⟨.slice (some ⟨g2, 0, none⟩) n n, 3, 1, n, cs⟩ : Own)]) e
    rintro i W2 l2 hi fr2
    refine ⟨rfl, ?_⟩
    apply br_split
    · intro hqi
      have hqi : (i : Int) < es.length := hqi
      have inci := (i64_in ((i : Int) + 1) ⟨by omega, by omega⟩).symm
      obtain ⟨pe, rfl, e, hx, _, _, hr⟩ := RP.at (f := deC) (sz := 3) (fun _ => rfl) hu (l1.trans l2) (j := (i : Int)) ⟨by omega, by omega⟩
      have hx : es[i]? = some e := hx
      obtain ⟨hf, ht0, htn⟩ := hE e (List.mem_of_getElem? hx)
      have hEi : E[i]? = some (feD e) := by rw [← hEE, List.getElem?_map, hx]; rfl
      have hstep : ∀ k, askF (lev E s) k (E.take (i + 1)) = if (feD e).f = k then max (askF (lev E s) k (E.take i)) (lev E s (feD e).t + (feD e).w) else askF (lev E s) k (E.take i) := fun k => by
        rw [List.take_add_one, hEi, Option.toList_some, askF_snoc]
      obtain ⟨f, t, ab⟩ := e
      have hf : f < n := hf
      have ht0 : 0 ≤ t := ht0
      have htn : t < n := htn
      obtain ⟨tn, rfl⟩ : ∃ tn : Nat, t = tn := ⟨t.toNat, by omega⟩
      have htn : tn < n := by omega
      have hft : (feD ⟨f, (tn : Int), ab⟩).t = tn := Int.toNat_natCast tn
      have hff : (feD ⟨f, (tn : Int), ab⟩).f = f := rfl
      have hXs := lev_s E s tn
      have cX := natV_get (lev E s) htn
      have cY := natV_get (fun k => askF (lev E s) k (E.take i)) hf
      rw [hft, hff] at hstep
      obtain ⟨X, hX⟩ : ∃ X, lev E s tn = X := ⟨_, rfl⟩
      obtain ⟨Y, hY⟩ : ∃ Y, askF (lev E s) f (E.take i) = Y := ⟨_, rfl⟩
      rw [hX] at hXs cX hstep
      rw [hY] at cY
      refine ⟨⟨by omega, hqi⟩, pe, rfl, [.int .i64 f, .int .i64 tn, .bool ab], rfl, Rds.o hr, ?_⟩
      refine ⟨⟨by omega, by show (tn : Int) < n; omega⟩, _, rfl, natV X, .inr ⟨0, nowO g n _, ⟨g, 0, none⟩, n, n, tn * 1, rfl, rfl, rfl, cX⟩, ?_⟩
      cases ab
      case' false =>
        obtain ⟨Z, hZ, rfl⟩ : ∃ Z, X + (feD ⟨f, (tn : Int), false⟩).w = Z ∧ Z = X := ⟨_, rfl, rfl⟩
      case' true =>
        refine ⟨rfl, ((X + 1 : Nat) : Int), by rw [i64_in ((X : Int) + 1) ⟨by omega, by omega⟩]; rfl, ?_⟩
        obtain ⟨Z, hZ⟩ : ∃ Z, X + 1 = Z := ⟨_, rfl⟩
        rw [hZ]
        have hZ : X + (feD ⟨f, (tn : Int), true⟩).w = Z := hZ
      all_goals
        rw [hZ] at hstep
        refine ⟨⟨by omega, by show (f : Int) < n; omega⟩, _, rfl, natV Y, .inr ⟨1, nowO g2 n _, ⟨g2, 0, none⟩, n, n, f * 1, rfl, rfl, rfl, cY⟩, ?_⟩
        refine ⟨rfl, ?_⟩
        apply br_split
      case' false.h1 => intro hgt
      case' true.h1 => intro hgt
      case' false.h2 => intro hgt
      case' true.h2 => intro hgt
      all_goals skip
      case' false.h1 =>
        have hgt : (Z : Int) > Y := hgt
      case' true.h1 =>
        have hgt : (Z : Int) > Y := hgt
      case false.h2 =>
        have hgt : ¬ (Z : Int) > Y := hgt
        refine ⟨rfl, _, inci, i + 1, all_sl ⟨rfl, trivial⟩, rfl, ole_eq ?_, by omega, by dsimp only; omega⟩
        have e := tab_congr (n := n) (x := fun k => askF (lev E s) k (E.take i)) (y := fun k => askF (lev E s) k (E.take (i + 1))) fun k => by
          rw [hstep k]
          split
          · rename_i hk; subst hk; rw [hY]; omega
          · rfl
        exact congrArg (fun xs => [nowO g n (tabL n (lev E s)), nowO g2 n xs]) e.symm
      case true.h2 =>
        have hgt : ¬ (Z : Int) > Y := hgt
        refine ⟨rfl, _, inci, i + 1, all_sl ⟨rfl, trivial⟩, rfl, ole_eq ?_, by omega, by dsimp only; omega⟩
        have e := tab_congr (n := n) (x := fun k => askF (lev E s) k (E.take i)) (y := fun k => askF (lev E s) k (E.take (i + 1))) fun k => by
          rw [hstep k]
          split
          · rename_i hk; subst hk; rw [hY]; omega
          · rfl
        exact congrArg (fun xs => [nowO g n (tabL n (lev E s)), nowO g2 n xs]) e.symm
      all_goals
        refine ⟨⟨by omega, by show (f : Int) < n; omega⟩, _, rfl, ?_⟩
        refine ⟨1, nowO g2 n (tabL n fun k => askF (lev E s) k (E.take i)), ⟨g2, 0, none⟩, n, n, f * 1, rfl, rfl, rfl, rfl, (fun u hu => by rw [List.mem_singleton.1 hu]; rfl), by rw [Nat.mul_one]; show f + 1 ≤ ((tabL n fun k => askF (lev E s) k (E.take i)).map natV).length; rw [List.length_map, tab_len]; omega, rfl, ?_⟩
        refine ⟨rfl, _, inci, i + 1, all_sl ⟨rfl, trivial⟩, rfl, ole_eq ?_, by omega, by dsimp only; omega⟩
        have e := tab_set (n := n) (f := f) (v := Z) (x := fun k => askF (lev E s) k (E.take i)) (y := fun k => askF (lev E s) k (E.take (i + 1))) fun k => by
          rw [hstep k]
          by_cases hk : f = k
          · subst hk; rw [if_pos rfl, if_pos rfl, hY]; omega
          · rw [if_neg hk, if_neg fun e => hk e.symm]
        have e2 := set_map natV Z (l := tabL n fun k => askF (lev E s) k (E.take i)) (j := f) (by rw [tab_len]; exact hf)
        rw [← e] at e2
        have e3 : ((tabL n fun k => askF (lev E s) k (E.take i)).map natV).take (f * 1) ++ [natV Z] ++ ((tabL n fun k => askF (lev E s) k (E.take i)).map natV).drop (f * 1 + 1) = (tabL n fun k => askF (lev E s) k (E.take (i + 1))).map natV := by rw [Nat.mul_one]; exact e2
        exact congrArg (fun cs => [nowO g n (tabL n (lev E s)), (⟨.slice (some ⟨g2, 0, none⟩) n n, 3, 1, n, cs⟩ : Own)]) e3
    · intro hqi
      have hqi : ¬ (i : Int) < es.length := hqi
      have hEl : E.length = es.length := by rw [← hEE, List.length_map]
      have hall : E.take i = E := List.take_of_length_le (by omega)
      refine ⟨rfl, _, inc, ⟨s + 1, g2⟩, all_sl ⟨rfl, rfl, trivial⟩, rfl, ?_, by dsimp only; omega, by dsimp only; omega⟩
      show OLe [nowO g n (tabL n (lev E s)), nowO g2 n (tabL n fun k => askF (lev E s) k (E.take i))] [nowO g2 n (tabL n (lev E (s + 1)))]
      rw [hall]
      exact List.filter_sublist.trans (List.sublist_cons_self (nowO g n (tabL n (lev E s))) [nowO g2 n (tabL n (lev E (s + 1)))])
  · intro hq
    have hq : ¬ (s : Int) < steps := hq
    obtain rfl : s = steps := by omega
    refine RetVC.freeze (i := 0) (fun _ hb => hb) rfl fun W3 l3 hfr => ?_
    refine ret_plain rfl fun W4 l4 => ?_
    have h := SlRead.mono hfr l4
    show SlRead W4 (.slice (some ⟨g, 0, none⟩) n n) (tabL n (lev E s)).length ((tabL n (lev E s)).map natC).flatten
    rw [flat_nat, tab_len]
    exact h
end Go.Proofs.Ytcgbcbdgjhnlaaa

