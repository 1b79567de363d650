/- Layer 18 (strata), walked: the law StrataLeast. -/
import Derived.Test.YtcgbcbdgjhnlaaaVStrAC
namespace Go.Proofs.Ytcgbcbdgjhnlaaa
open Go.RowKit

theorem nums_tab {x : ConfS} {num : Num} (h : ShN x num) : num.flatten = tabL (allD x).length (fl num) := by
  have hl : num.flatten.length = (allD x).length := by
    have e := off_len h num.length
    rw [shN_len h, List.take_length, ← shN_len h, List.take_length] at e
    exact e.symm
  apply List.ext_getElem?
  intro k
  rcases Nat.lt_or_ge k (allD x).length with hk | hk
  · rw [tab_get _ hk]
    unfold fl
    rw [List.getD_eq_getElem?_getD, List.getElem?_eq_getElem (by omega)]; rfl
  · rw [List.getElem?_eq_none (by omega), List.getElem?_eq_none (by rw [tab_len]; exact hk)]
theorem rwO_snoc (A : Option Addr) (n c : Nat) (xs ys : List Nat) : rwO A n c (xs ++ ys) = ⟨.slice A n c, 3, 1, n, xs.map natV ++ ys.map natV⟩ := by
  unfold rwO
  rw [List.map_append]
structure LsSt where
  i : Nat
  m : Nat
  A : Option Addr
  c : Nat
structure MoSt where
  i : Nat
  y : Nat
set_option maxRecDepth 20000 in
set_option maxHeartbeats 16000000 in
theorem strleast_x (x0 : ConfS) (hx : anyC x0) (cs : List Value) (W : PW) (h : ConfR W x0 cs) : CallsX Try.prog 16 ⟨[.agg ⟨cs⟩]⟩ [] W fun v _ => v = .bool true := by
  have hC0 := h
  have hmax : (10000000 : Nat) ≤ maxLen := by decide
  obtain ⟨sv, kv, rfl, g1, g2⟩ := h
  obtain ⟨A0, c0, rfl, _, _⟩ := g1.form
  obtain ⟨A1, c1, rfl, _, _⟩ := g2.form
  obtain ⟨T, hT⟩ := treeF
  refine pureNX hmix Try.func16 r16 (by kernel_rfl) [nilO 3 1] rfl [.agg ⟨[.slice A0 x0.spaces.length c0, .slice A1 x0.scopes.length c1]⟩] rfl ?_
  refine call_v rfl (fun W' lw => few_x x0 _ W' (ConfR.mono _ _ _ _ lw hC0)) (fun W1 v1 W2 l1 l2 hv1 => ?_)
  obtain ⟨cells, rfl, hC⟩ := hv1
  have hok := few_ok hx
  have hB := few_bd2 x0
  have hSm := few_smc2 hx
  obtain ⟨x, hxx⟩ : ∃ x, fewC x0 = x := ⟨_, rfl⟩
  rw [hxx] at hok hB hSm hC
  have hC2 := hC
  obtain ⟨sv, kv, rfl, k1, k2⟩ := hC
  obtain ⟨A2, c2, rfl, _, _⟩ := k1.form
  obtain ⟨A3, c3, rfl, _, _⟩ := k2.form
  obtain ⟨n1, hn1⟩ : ∃ n, x.spaces.length = n := ⟨_, rfl⟩
  obtain ⟨n2, hn2⟩ : ∃ n, x.scopes.length = n := ⟨_, rfl⟩
  rw [hn1, hn2] at hC2 ⊢
  clear k1 k2
  have hAl := allD_len hB
  have hnx := fun W' h => numbers_x newIndex_x x [.slice A2 n1 c2, .slice A3 n2 c3] W' hok hSm h
  obtain ⟨_, hz1, hz2⟩ := numbers_is hT x
  have hr0 : (numbersS x).2 = 0 → rightN x = true := fun he => by
    cases hb : rightN x with
    | true => rfl
    | false =>
      unfold numbersS at he
      rw [if_pos hb] at he
      exact absurd (show (4 : Int) = 0 from he) (by decide)
  obtain ⟨N, hN⟩ : ∃ N, numbersS x = N := ⟨_, rfl⟩
  rw [hN] at hnx hz1 hz2 hr0
  obtain ⟨num, e⟩ := N
  dsimp only at hnx hz1 hz2 hr0
  refine call_v rfl (fun W' lw => hnx W' (ConfR.mono _ _ _ _ lw hC2)) (fun W3 v3 W4 l3 l4 hv3 => ?_)
  obtain ⟨u, rfl, hu⟩ := hv3
  have l24 := l3.trans l4
  refine ⟨_, rfl, _, rfl, rfl, ?_⟩
  apply br_nsplit
  · intro he
    have he : ¬ e = 0 := he
    obtain rfl : num = [] := hz2 he
    obtain ⟨A4, c4, rfl, _, _⟩ := RL.form hu
    refine ⟨rfl, ?_⟩
    refine call_e (x := .bool true) rfl (fun W' _ => slives_x W') (fun W9 l9 => ?_)
    exact ret_plain rfl fun _ _ => rfl
  intro he
  have he : e = 0 := he
  have hg := right_good (hr0 he)
  obtain ⟨hed, hsh, hle, hwi⟩ := hz1 he
  have hEl := edges_len hT hg
  have hEo := edges_ok hT hg hed
  have hAl2 := (allD_good hg).1
  have hce := fun W' h => dedges_x hT x [.slice A2 n1 c2, .slice A3 n2 c3] W' hg hB h
  obtain ⟨Q, hQ⟩ : ∃ Q, edgesD T x = Q := ⟨_, rfl⟩
  rw [hQ] at hed hle hwi hEl hEo hce
  obtain ⟨es, ok⟩ := Q
  dsimp only at hed hle hwi hEl hEo hce
  subst hed
  have hcl := hle.closed
  have hfix := hle.fix
  have hsm := fun k hk => Least.small hle hwi (k := k) hk
  refine call_v rfl (fun W' lw => hce W' (ConfR.mono _ _ _ _ (l24.trans lw) hC2)) (fun W5 v5 W6 l5 l6 hv5 => ?_)
  obtain ⟨y, rfl, hy⟩ := hv5
  obtain ⟨A5, c5, rfl, _, _⟩ := hy.form
  have hu6 : NumR W6 u num := RL.mono RowR.mono (l5.trans l6) hu
  have l26 := l24.trans (l5.trans l6)
  have hnt := nums_tab hsh
  have hoff := off_len hsh
  obtain ⟨A4, c4, rfl, _, _⟩ := RL.form hu6
  have hnl := shN_len hsh
  have hnle := hB.1
  obtain ⟨n, hn⟩ : ∃ n, (allD x).length = n := ⟨_, rfl⟩
  rw [hn] at hAl2 hwi hEo hsm hnt
  have hfl : (num.flatten).length = n := by rw [hnt, tab_len]
  have hpre : ∀ i, ((num.take i).flatten).length ≤ n := fun i => by
    have : num.flatten.length = ((num.take i).flatten).length + ((num.drop i).flatten).length := by
      conv => lhs; rw [← List.take_append_drop i num, List.flatten_append, List.length_append]
    omega
  refine ⟨_, rfl, _, rfl, ?_⟩
  refine ⟨LsSt, fun t => [(7, .v (.slice t.A t.m t.c)), (8, .v (.int .i64 t.i))], fun _ => [[.v (.slice A2 n1 c2), .v (.slice A3 n2 c3)]], fun t => [rwO t.A t.m t.c ((num.take t.i).flatten)], fun t _ => t.i ≤ num.length ∧ t.m = ((num.take t.i).flatten).length, fun t => num.length - t.i, ⟨0, 0, none, 0⟩,
    all_sl ⟨rfl, rfl, trivial⟩, rfl, ole_refl _, ⟨Nat.zero_le _, rfl⟩, loopOK (fun _ => ⟨⟨trivial, rfl⟩, ⟨trivial, rfl⟩, trivial⟩) (fun _ => rfl) (fun _ => rfl), ?_⟩
  rintro ⟨i, m, A, c⟩ W7 l7 ⟨hi, hm⟩ fr
  dsimp only at hi hm
  refine ⟨rfl, ?_⟩
  apply br_split
  · intro hq
    have hq : (i : Int) < num.length := hq
    have inc := (i64_in ((i : Int) + 1) ⟨by omega, by omega⟩).symm
    obtain ⟨p1, rfl, r, cs1, hr, _, ⟨u1, rfl, hu1⟩, _, hd1⟩ := RL.at RowR.mono hu6 l7 (j := (i : Int)) ⟨by omega, hq⟩
    have hr : num[i]? = some r := hr
    have hnext : (num.take (i + 1)).flatten = (num.take i).flatten ++ r := by rw [List.take_add_one, hr, Option.toList_some, List.flatten_append, List.flatten_singleton]
    have hml := hpre (i + 1)
    rw [hnext, List.length_append, ← hm] at hml
    obtain ⟨b1, d1, rfl, _, _⟩ := hu1.form
    have hx1 : Rd W7 (p1.add ((i : Int).toNat * 1)) (.slice b1 r.length d1) := by have h := hd1 0 _ rfl; rw [Addr.add_add] at h; exact h
    refine ⟨⟨by omega, hq⟩, p1, rfl, .slice b1 r.length d1, hx1.o, ?_⟩
    refine ⟨0, _, (r.map natC).flatten, rfl, rfl, rfl, rfl, len_flat (f := natC) (sz := 1) (fun _ => rfl) r, one_flat (f := natC) (fun _ u hu => by rw [List.mem_singleton.1 hu]; rfl) r, fun hp => ?_, by show m + r.length ≤ maxLen; omega, by show (m + r.length) * 8 ≤ 140737488355328; omega, rfl, @fun Ae ce _ => ?_⟩
    · obtain ⟨_, _, hee, _, _, hr5⟩ := hu1
      obtain ⟨a', ha', hrd⟩ := hr5 hp
      simp only [Value.slice.injEq] at hee
      exact ⟨a', hee.1.trans ha', hrd.o⟩
    refine ⟨rfl, _, inc, ⟨i + 1, m + r.length, Ae, ce⟩, all_sl ⟨rfl, rfl, trivial⟩, rfl, ole_eq ?_, ⟨by dsimp only; omega, by dsimp only; rw [hnext, List.length_append, hm]⟩, by dsimp only; omega⟩
    show _ = [rwO Ae (m + r.length) ce ((num.take (i + 1)).flatten)]
    rw [hnext, rwO_snoc, flat_nat]
    rfl
  · intro hq
    have hq : ¬ (i : Int) < num.length := hq
    obtain rfl : i = num.length := by omega
    have hfull : (num.take num.length).flatten = tabL n (fl num) := by rw [List.take_length, hnt]
    have hmn : m = n := by rw [hm, hfull, tab_len]
    obtain rfl := hmn
    refine CallVC.freeze (fun _ hb => hb) rfl (i := 0) rfl k65 fun W8 l8 hs8 => ?_
    have hs8 : RP natC W8 (.slice A m c) (tabL m (fl num)) := by
      show SlRead W8 (.slice A m c) (tabL m (fl num)).length ((tabL m (fl num)).map natC).flatten
      rw [flat_nat, tab_len, ← hfull]
      exact hs8
    refine call_v rfl (fun W' lw => alld_x x _ W' hB (ConfR.mono _ _ _ _ (l26.trans (l7.trans (PW.Le.trans l8 lw))) hC2)) (fun W9 v9 W10 l9 l10 hv9 => ?_)
    obtain ⟨A9, c9, e9, _, _⟩ := hv9.form
    rw [hn] at e9
    subst e9
    refine ⟨rfl, ?_⟩
    apply br_nsplit
    · intro h; exact absurd rfl h
    intro _
    obtain ⟨f, hfm⟩ : ∃ f, fl num = f := ⟨_, rfl⟩
    obtain ⟨E, hEE⟩ : ∃ E, es.map feD = E := ⟨_, rfl⟩
    rw [hfm] at hs8 hcl hfix hsm
    rw [hEE] at hcl hfix
    have hy8 := hy.mono (l7.trans (PW.Le.trans l8 (l9.trans l10)))
    have hs10 : RP natC W10 (.slice A m c) (tabL m f) := hs8.mono (l9.trans l10)
    refine ⟨Nat, fun i => [(9, .v (.int .i64 i))], fun _ => [[.v (.slice A2 n1 c2), .v (.slice A3 n2 c3)]], fun _ => [], fun i _ => i ≤ m, fun i => m - i, 0,
      all_sl ⟨rfl, trivial⟩, rfl, ole_refl _, Nat.zero_le _, loopOK (fun _ => ⟨⟨trivial, rfl⟩, trivial⟩) (fun _ => rfl) (fun _ => rfl), ?_⟩
    rintro i W11 l11 hi2 fr2
    refine ⟨rfl, ?_⟩
    apply br_split
    · intro hqi
      have hqi : (i : Int) < m := hqi
      have inci := (i64_in ((i : Int) + 1) ⟨by omega, by omega⟩).symm
      obtain ⟨p7, rfl, X, hX, _, _, hr7⟩ := RP.at (f := natC) (sz := 1) (fun _ => rfl) hs10 l11 (j := (i : Int)) ⟨by omega, hqi⟩
      have hX : (tabL m f)[i]? = some X := hX
      rw [tab_get _ (by omega)] at hX
      have hX : f i = X := Option.some.inj hX
      have hx7 : Rd W11 (p7.add ((i : Int).toNat * 1)) (natV X) := by have h := hr7 0 _ rfl; rw [Addr.add_add] at h; exact h
      have hXm := hsm i (by omega)
      rw [hX] at hXm
      obtain ⟨z, hz, hz0, hzm⟩ : ∃ z : Int, natV X = .int .i64 z ∧ 0 ≤ z ∧ z < m := ⟨(X : Int), rfl, Int.natCast_nonneg _, by omega⟩
      rw [hz] at hx7
      refine ⟨⟨by omega, hqi⟩, p7, rfl, .int .i64 z, hx7.o, rfl, ?_⟩
      apply br_split
      · intro h
        have h : z < 0 := h
        exact absurd h (by omega)
      intro _
      refine ⟨⟨by omega, hqi⟩, p7, rfl, .int .i64 z, hx7.o, rfl, ?_⟩
      apply br_split
      · intro h
        have h : z ≥ m := h
        exact absurd h (by omega)
      intro _
      exact ⟨rfl, _, inci, i + 1, all_sl ⟨rfl, trivial⟩, rfl, ole_refl _, by omega, by dsimp only; omega⟩
    · intro hqi
      have hqi : ¬ (i : Int) < m := hqi
      have hs11 := hs10.mono l11
      have hy11 := hy8.mono l11
      refine ⟨Nat, fun k => [(10, .v (.int .i64 k))], fun _ => [[.v (.slice A2 n1 c2), .v (.slice A3 n2 c3)]], fun _ => [], fun k _ => k ≤ m, fun k => m - k, 0,
        all_sl ⟨rfl, trivial⟩, rfl, ole_refl _, Nat.zero_le _, loopOK (fun _ => ⟨⟨trivial, rfl⟩, trivial⟩) (fun _ => rfl) (fun _ => rfl), ?_⟩
      rintro k W12 l12 hk fr3
      refine ⟨rfl, ?_⟩
      apply br_split
      · intro hqk
        have hqk : (k : Int) < m := hqk
        have inck := (i64_in ((k : Int) + 1) ⟨by omega, by omega⟩).symm
        obtain ⟨p7, rfl, Y, hY, _, _, hr7⟩ := RP.at (f := natC) (sz := 1) (fun _ => rfl) hs11 l12 (j := (k : Int)) ⟨by omega, hqk⟩
        have hY : (tabL m f)[k]? = some Y := hY
        rw [tab_get _ (by omega)] at hY
        have hY : f k = Y := Option.some.inj hY
        have hx7 : Rd W12 (p7.add ((k : Int).toNat * 1)) (natV Y) := by have h := hr7 0 _ rfl; rw [Addr.add_add] at h; exact h
        have hs12 := hs11.mono l12
        have hy12 := hy11.mono l12
        have hYm := hsm k (by omega)
        rw [hY] at hYm
        refine ⟨MoSt, fun t => [(11, .v (.int .i64 t.y)), (12, .v (.int .i64 t.i))], fun _ => [[.v (.slice A2 n1 c2), .v (.slice A3 n2 c3)]], fun _ => [], fun t _ => t.i ≤ es.length ∧ t.y = askF f k (E.take t.i), fun t => es.length - t.i, ⟨0, 0⟩,
          all_sl ⟨rfl, rfl, trivial⟩, rfl, ole_refl _, ⟨Nat.zero_le _, rfl⟩, loopOK (fun _ => ⟨⟨trivial, rfl⟩, ⟨trivial, rfl⟩, trivial⟩) (fun _ => rfl) (fun _ => rfl), ?_⟩
        rintro ⟨j, y⟩ W13 l13 ⟨hj, hyy⟩ fr4
        dsimp only at hj hyy
        refine ⟨rfl, ?_⟩
        apply br_split
        · intro hqj
          have hqj : (j : Int) < es.length := hqj
          have incj := (i64_in ((j : Int) + 1) ⟨by omega, by omega⟩).symm
          obtain ⟨pe, rfl, ed, hxe, _, _, hre⟩ := RP.at (f := deC) (sz := 3) (fun _ => rfl) hy12 l13 (j := (j : Int)) ⟨by omega, hqj⟩
          have hxe : es[j]? = some ed := hxe
          obtain ⟨ef1, ef2, ef3⟩ := hEo ed (List.mem_of_getElem? hxe)
          have hEj : E[j]? = some (feD ed) := by rw [← hEE, List.getElem?_map, hxe]; rfl
          have hstep : askF f k (E.take (j + 1)) = if (feD ed).f = k then max (askF f k (E.take j)) (f (feD ed).t + (feD ed).w) else askF f k (E.take j) := by
            rw [List.take_add_one, hEj, Option.toList_some, askF_snoc]
          have hcle := hcl (feD ed) (List.mem_of_getElem? hEj)
          obtain ⟨g, t, ab⟩ := ed
          have ef1 : g < m := ef1
          have ef2 : 0 ≤ t := ef2
          have ef3 : t < m := ef3
          obtain ⟨tn, rfl⟩ : ∃ tn : Nat, t = tn := ⟨t.toNat, by omega⟩
          have hft : (feD ⟨g, (tn : Int), ab⟩).t = tn := Int.toNat_natCast tn
          have hff : (feD ⟨g, (tn : Int), ab⟩).f = g := rfl
          rw [hft, hff] at hcle hstep
          rw [← hyy] at hstep
          have hg0 : Rd W13 ((pe.add ((j : Int).toNat * 3)).add 0) (.int .i64 g) := hre 0 _ rfl
          have hg1 : Rd W13 ((pe.add ((j : Int).toNat * 3)).add 1) (.int .i64 tn) := hre 1 _ rfl
          have hg2 : Rd W13 ((pe.add ((j : Int).toNat * 3)).add 2) (.bool ab) := hre 2 _ rfl
          refine ⟨⟨by omega, hqj⟩, pe, rfl, .int .i64 g, hg0.o, rfl, ?_⟩
          apply br_nsplit
          · intro hne
            have hne : ¬ (g : Int) = k := hne
            rw [if_neg (by omega)] at hstep
            exact ⟨rfl, _, incj, ⟨j + 1, y⟩, all_sl ⟨rfl, rfl, trivial⟩, rfl, ole_refl _, ⟨by dsimp only; omega, hstep.symm⟩, by dsimp only; omega⟩
          intro heq
          have heq : (g : Int) = k := heq
          obtain rfl : g = k := by omega
          rw [if_pos rfl] at hstep
          rw [hY] at hcle
          obtain ⟨q7, hq7, X, hX, _, _, hr8⟩ := RP.at (f := natC) (sz := 1) (fun _ => rfl) hs12 l13 (j := (tn : Int)) ⟨by omega, ef3⟩
          obtain rfl : p7 = q7 := Option.some.inj hq7
          have hX : (tabL m f)[tn]? = some X := hX
          rw [tab_get _ (by omega)] at hX
          have hX : f tn = X := Option.some.inj hX
          rw [hX] at hcle hstep
          have hx8 : Rd W13 (p7.add ((tn : Int).toNat * 1)) (natV X) := by have h := hr8 0 _ rfl; rw [Addr.add_add] at h; exact h
          have hx9 := hx7.mono l13
          have hXm : X ≤ Y := by omega
          refine ⟨⟨by omega, hqj⟩, pe, rfl, .int .i64 tn, hg1.o, ⟨by omega, ef3⟩, p7, rfl, natV X, hx8.o, ⟨by omega, hqj⟩, pe, rfl, .bool ab, hg2.o, ?_⟩
          cases ab
          case' false =>
            obtain ⟨Z, hZ, rfl⟩ : ∃ Z, X + (feD ⟨g, (tn : Int), false⟩).w = Z ∧ Z = X := ⟨_, rfl, rfl⟩
          case' true =>
            refine ⟨rfl, ((X + 1 : Nat) : Int), by rw [i64_in ((X : Int) + 1) ⟨by omega, by omega⟩]; rfl, ?_⟩
            obtain ⟨Z, hZ⟩ : ∃ Z, X + 1 = Z := ⟨_, rfl⟩
            rw [hZ]
            have hZ : X + (feD ⟨g, (tn : Int), true⟩).w = Z := hZ
          all_goals
            rw [hZ] at hcle hstep
            refine ⟨⟨by omega, hqk⟩, p7, rfl, natV Y, hx9.o, rfl, ?_⟩
            apply br_split
            · intro h
              have h : (Z : Int) > Y := h
              exact absurd h (by omega)
            intro _
            refine ⟨rfl, ?_⟩
            apply br_split
            · intro h
              have h : (Z : Int) > y := h
              exact ⟨rfl, _, incj, ⟨j + 1, Z⟩, all_sl ⟨rfl, rfl, trivial⟩, rfl, ole_refl _, ⟨by dsimp only; omega, by dsimp only; omega⟩, by dsimp only; omega⟩
            · intro h
              have h : ¬ (Z : Int) > y := h
              exact ⟨rfl, _, incj, ⟨j + 1, y⟩, all_sl ⟨rfl, rfl, trivial⟩, rfl, ole_refl _, ⟨by dsimp only; omega, by dsimp only; omega⟩, by dsimp only; omega⟩
        · intro hqj
          have hqj : ¬ (j : Int) < es.length := hqj
          have hEl2 : E.length = es.length := by rw [← hEE, List.length_map]
          have hall : E.take j = E := List.take_of_length_le (by omega)
          rw [hall, hfix k, hY] at hyy
          refine ⟨⟨by omega, hqk⟩, p7, rfl, natV Y, (hx7.mono l13).o, rfl, ?_⟩
          apply br_split
          · intro h
            have h : (Y : Int) > y := h
            exact absurd h (by omega)
          intro _
          exact ⟨rfl, _, inck, k + 1, all_sl ⟨rfl, trivial⟩, rfl, ole_refl _, by omega, by dsimp only; omega⟩
      · intro hqk
        refine call_e (x := .bool true) rfl (fun W' _ => slives_x W') (fun W14 l14 => ?_)
        exact ret_plain rfl fun _ _ => rfl
end Go.Proofs.Ytcgbcbdgjhnlaaa

