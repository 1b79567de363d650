/- The statement RuleMany, walked. -/
import Derived.Test.YtcgbcbdgjhnlaaaGrD
import Derived.Test.YtcgbcbdgjhnlaaaCutB
import Derived.Test.YtcgbcbdgjhnlaaaRuleU
namespace Go.Proofs.Ytcgbcbdgjhnlaaa
open Go.RowKit

theorem spsX_len (m k : Nat) (hm : m ≤ 9) (hk : k ≤ 18) : ∀ i, i ≤ 18 → (spsX m k i).length ≤ 3000
  | 0, _ => Nat.zero_le _
  | i + 1, hi => by
    simp only [spsX, List.length_append, rep_len, spX_len]
    have h1 : k * (17 + 4 * m) ≤ 18 * 53 := Nat.mul_le_mul hk (by omega)
    have h2 : i * (14 + 1 * (17 + 4 * m)) ≤ 17 * 67 := Nat.mul_le_mul (by omega) (by omega)
    omega
theorem repX_len {x : List UInt8} {n a b : Nat} (hn : n ≤ a) (hx : x.length ≤ b) (c : Nat) (hc : a * b ≤ c) : (rep n x).length ≤ c := by
  rw [rep_len]
  exact Nat.le_trans (Nat.mul_le_mul hn hx) hc
def cntS (n i : Nat) : Nat := if i = 0 then n else 1
theorem spsX_step (m k i : Nat) : spsX m k i ++ spX0 ++ rep (cntS k i) (relX m) ++ [125] = spsX m k (i + 1) := by
  cases i with
  | zero => simp [spsX, cntS, spX, rep]
  | succ i =>
    have e : spsX m k (i + 1) ++ spX0 ++ rep (cntS k (i + 1)) (relX m) ++ [125] = spX m k ++ (rep i (spX m 1) ++ spX m 1) := by
      simp [spsX, cntS, spX]
    rw [e, rep_snoc]; rfl
set_option maxHeartbeats 8000000 in
theorem rulemany_x (x y z w : Int) (W : PW) : CallsX Try.prog 13 ⟨[.int .i64 x, .int .i64 y, .int .i64 z, .int .i64 w]⟩ [] W fun v _ => v = .bool true := by
  refine pureX hmix Try.func13 r13 (by kernel_rfl) [.int .i64 x, .int .i64 y, .int .i64 z, .int .i64 w] rfl ?_
  refine vc_assoc (vc_assoc (vc_cut (fun f' S' => ∃ (i k m j : Nat) (W1 : PW), S' = ⟨[], [], W1⟩ ∧ i ≤ 17 ∧ 1 ≤ k ∧ k ≤ 18 ∧ m ≤ 9 ∧ j ≤ 18 ∧ AllSl f' [(0, .v (.int .i64 ((i + 1 : Nat) : Int))), (1, .v (.int .i64 (k : Nat))), (2, .v (.int .i64 ((m + 1 : Nat) : Int))), (3, .v (.int .i64 (j : Nat))), (9, .v (strV []))]) ?_ ?_))
  · refine call_v rfl (fun W' _ => within_x x 1 18 W') (fun W2 v W3 _ _ hv => ?_)
    obtain ⟨n, hn1, hn2, hn⟩ := within_nat x 1 18 (by decide)
    have hv : v = .int .i64 (n : Nat) := by rw [hv, ← hn]; rfl
    subst hv
    refine call_v rfl (fun W' _ => within_x y 1 18 W') (fun W2 v W3 _ _ hv => ?_)
    obtain ⟨k, hk1, hk2, hk⟩ := within_nat y 1 18 (by decide)
    have hv : v = .int .i64 (k : Nat) := by rw [hv, ← hk]; rfl
    subst hv
    refine call_v rfl (fun W' _ => within_x z 1 10 W') (fun W2 v W3 _ _ hv => ?_)
    obtain ⟨m, hm1, hm2, hm⟩ := within_nat z 1 10 (by decide)
    have hv : v = .int .i64 (m : Nat) := by rw [hv, ← hm]; rfl
    subst hv
    refine call_v rfl (fun W' _ => within_x w 0 18 W') (fun W2 v W3 _ _ hv => ?_)
    obtain ⟨j, hj1, hj2, hj⟩ := within_nat w 0 18 (by decide)
    have hv : v = .int .i64 (j : Nat) := by rw [hv, ← hj]; rfl
    subst hv
    obtain ⟨i, rfl⟩ : ∃ i, n = i + 1 := ⟨n - 1, by omega⟩
    obtain ⟨m', rfl⟩ : ∃ i, m = i + 1 := ⟨m - 1, by omega⟩
    exact ⟨i, k, m', j, W3, rfl, by omega, hk1, hk2, by omega, hj2, ⟨rfl, rfl, rfl, rfl, rfl, trivial⟩⟩
  rintro f' S' ⟨i, k, m, j, W1, rfl, hi, hk1, hk2, hm, hj, hfr⟩
  refine vc_cut (fun f' S' => ∃ W1, S' = ⟨[], [], W1⟩ ∧ AllSl f' [(0, .v (.int .i64 ((i + 1 : Nat) : Int))), (1, .v (.int .i64 (k : Nat))), (2, .v (.int .i64 ((m + 1 : Nat) : Int))), (3, .v (.int .i64 (j : Nat))), (9, .v (strV (spsX m k (i + 1))))]) ?_ ?_
  · refine vc_at _ hfr ?_
    refine ⟨Nat, fun a => [(9, .v (strV (spsX m k a))), (10, .v (.int .i64 (a : Nat)))], fun _ => [], fun _ => [], fun a _ => a ≤ i + 1, fun a => i + 1 - a, 0,
      all_sl ⟨rfl, rfl, trivial⟩, rfl, ole_refl _, Nat.zero_le _, loopOK (fun _ => ⟨⟨trivial, rfl⟩, ⟨trivial, rfl⟩, trivial⟩) (fun _ => rfl) (fun _ => rfl), ?_⟩
    intro a W2 l2 ha fr
    have hlen := spsX_len m k hm hk2 a (by omega)
    refine vc_cut (fun f' S' => S' = ⟨[], [], W2⟩ ∧ a < i + 1 ∧ AllSl f' [(0, .v (.int .i64 ((i + 1 : Nat) : Int))), (1, .v (.int .i64 (k : Nat))), (2, .v (.int .i64 ((m + 1 : Nat) : Int))), (3, .v (.int .i64 (j : Nat))), (9, .v (strV (spsX m k a))), (10, .v (.int .i64 (a : Nat)))]) ?_ ?_
    · refine ⟨rfl, br_split (fun hlt => ?_) (fun hlt => ?_)⟩
      · have hlt : (a : Int) < ((i + 1 : Nat) : Int) := hlt
        exact ⟨rfl, by omega, ⟨rfl, rfl, rfl, rfl, rfl, rfl, trivial⟩⟩
      · have hlt : ¬ (a : Int) < ((i + 1 : Nat) : Int) := hlt
        obtain rfl : a = i + 1 := by omega
        exact ⟨W2, rfl, ⟨rfl, rfl, rfl, rfl, rfl, trivial⟩⟩
    rintro f3 S3 ⟨rfl, hlt, hfr3⟩
    refine vc_cut (fun f' S' => ∃ W3, S' = ⟨[], [], W3⟩ ∧ AllSl f' [(0, .v (.int .i64 ((i + 1 : Nat) : Int))), (1, .v (.int .i64 (k : Nat))), (2, .v (.int .i64 ((m + 1 : Nat) : Int))), (3, .v (.int .i64 (j : Nat))), (9, .v (strV (spsX m k (a + 1)))), (10, .v (.int .i64 (a : Nat)))]) ?_ ?_
    · refine vc_block ?_
      refine vc_at _ hfr3 ?_
      refine vc_assoc (vc_cut (fun f' S' => ∃ W3, S' = ⟨[], [], W3⟩ ∧ AllSl f' [(0, .v (.int .i64 ((i + 1 : Nat) : Int))), (1, .v (.int .i64 (k : Nat))), (2, .v (.int .i64 ((m + 1 : Nat) : Int))), (3, .v (.int .i64 (j : Nat))), (9, .v (strV (spsX m k a ++ spX0 ++ rep (cntS k a) (relX m)))), (10, .v (.int .i64 (a : Nat)))]) ?_ ?_)
      · refine ⟨cat_le3 4000 (by simp only [List.length_cons, List.length_nil]; show (spsX m k a).length + _ ≤ _; omega) (by decide), ?_⟩
        refine ⟨Nat, fun b => [(9, .v (strV (spsX m k a ++ spX0 ++ rep b (relX m)))), (11, .v (.int .i64 (b : Nat)))], fun _ => [], fun _ => [], fun b _ => b ≤ cntS k a, fun b => cntS k a - b, 0,
          all_sl ⟨?_, rfl, trivial⟩, rfl, ole_refl _, Nat.zero_le _, loopOK (fun _ => ⟨⟨trivial, rfl⟩, ⟨trivial, rfl⟩, trivial⟩) (fun _ => rfl) (fun _ => rfl), ?_⟩
        · show GV.v (strV (spsX m k a ++ spX0)) = .v (strV (spsX m k a ++ spX0 ++ []))
          rw [List.append_nil]
        intro b W3 l3 hb fr4
        have hcnt : cntS k a ≤ 18 := by unfold cntS; split <;> omega
        have hrl := repX_len (x := relX m) (n := b) (a := 18) (b := 53) (by omega) (by rw [relX_len]; omega) 1000 (by decide)
        have hs : ((spsX m k a ++ spX0 ++ rep b (relX m))).length ≤ 5000 := by
          simp only [List.length_append, spX0, kNamespace, List.length_cons, List.length_nil]; omega
        obtain ⟨s, hsx⟩ : ∃ s, spsX m k a ++ spX0 ++ rep b (relX m) = s := ⟨_, rfl⟩
        refine vc_cut (fun f' S' => S' = ⟨[], [], W3⟩ ∧ b < cntS k a ∧ AllSl f' [(0, .v (.int .i64 ((i + 1 : Nat) : Int))), (1, .v (.int .i64 (k : Nat))), (2, .v (.int .i64 ((m + 1 : Nat) : Int))), (3, .v (.int .i64 (j : Nat))), (9, .v (strV s)), (10, .v (.int .i64 (a : Nat))), (11, .v (.int .i64 (b : Nat)))]) ?_ ?_
        · have out : b = cntS k a → ∃ W3', (⟨[], [], W3⟩ : GS) = ⟨[], [], W3'⟩ ∧ spsX m k a ++ spX0 ++ rep b (relX m) = spsX m k a ++ spX0 ++ rep (cntS k a) (relX m) := fun e => ⟨W3, rfl, by rw [e]⟩
          unfold cntS at hb out ⊢
          refine ⟨rfl, ?_⟩
          apply br_split
          · intro h1
            have h1 : (b : Int) < k := h1
            refine ⟨rfl, ?_⟩
            apply br_split
            · intro h2
              have h2 : (b : Int) = 0 := h2
              refine ⟨rfl, by split <;> omega, ⟨rfl, rfl, rfl, rfl, ?_, rfl, rfl, trivial⟩⟩
              exact congrArg (fun z => GV.v (strV z)) hsx
            · intro h2
              have h2 : ¬ (b : Int) = 0 := h2
              refine ⟨rfl, br_split (fun h3 => ?_) (fun h3 => ?_)⟩
              · have h3 : (a : Int) = 0 := h3
                rw [if_pos (show a = 0 by omega)] at hb
                refine ⟨rfl, by rw [if_pos (show a = 0 by omega)]; omega, ⟨rfl, rfl, rfl, rfl, ?_, rfl, rfl, trivial⟩⟩
                exact congrArg (fun z => GV.v (strV z)) hsx
              · have h3 : ¬ (a : Int) = 0 := h3
                have hbe : b = if a = 0 then k else 1 := by rw [if_neg (show ¬ a = 0 by omega)] at hb ⊢; omega
                obtain ⟨W3', e1, e2⟩ := out hbe
                exact ⟨W3', e1, ⟨rfl, rfl, rfl, rfl, congrArg (fun z => GV.v (strV z)) e2, rfl, trivial⟩⟩
          · intro h1
            have h1 : ¬ (b : Int) < k := h1
            have hbe : b = if a = 0 then k else 1 := by split <;> split at hb <;> omega
            obtain ⟨W3', e1, e2⟩ := out hbe
            exact ⟨W3', e1, ⟨rfl, rfl, rfl, rfl, congrArg (fun z => GV.v (strV z)) e2, rfl, trivial⟩⟩
        rintro f5 S5 ⟨rfl, hbc, hfr5⟩
        refine vc_at _ hfr5 ?_
        rw [hsx] at hs
        refine ⟨cat_le3 6000 (by simp only [List.length_cons, List.length_nil]; show s.length + _ ≤ _; omega) (by decide), ?_⟩
        refine ⟨Nat, fun q => [(9, .v (strV (s ++ relX0 ++ rep q typX))), (12, .v (.int .i64 ((q + 1 : Nat) : Int)))], fun _ => [], fun _ => [], fun q _ => q ≤ m, fun q => m - q, 0,
          all_sl ⟨?_, rfl, trivial⟩, rfl, ole_refl _, Nat.zero_le _, loopOK (fun _ => ⟨⟨trivial, rfl⟩, ⟨trivial, rfl⟩, trivial⟩) (fun _ => rfl) (fun _ => rfl), ?_⟩
        · show GV.v (strV (s ++ relX0)) = .v (strV (s ++ relX0 ++ []))
          rw [List.append_nil]
        intro q W4 l4 hq fr6
        have htl := repX_len (x := typX) (n := q) (a := 9) (b := 4) (by omega) (by decide) 36 (by decide)
        have hsl : (s ++ relX0 ++ rep q typX).length ≤ 6000 := by
          simp only [List.length_append, relX0, kRelation, kUser, List.length_cons, List.length_nil]; omega
        refine ⟨rfl, br_split (fun h1 => ?_) (fun h1 => ?_)⟩
        · have h1 : ((q + 1 : Nat) : Int) < ((m + 1 : Nat) : Int) := h1
          refine ⟨cat_le3 7000 (by simp only [List.length_cons, List.length_nil]; show (s ++ relX0 ++ rep q typX).length + _ ≤ _; omega) (by decide), rfl, _, (i64_in (((q + 1 : Nat) : Int) + 1) ⟨by omega, by omega⟩).symm, q + 1, all_sl ⟨?_, ?_, trivial⟩, rfl, ole_refl _, by omega, by dsimp only; omega⟩
          · show GV.v (strV (s ++ relX0 ++ rep q typX ++ typX)) = .v (strV (s ++ relX0 ++ rep (q + 1) typX))
            rw [List.append_assoc, rep_snoc]
          · show GV.v (.int .i64 (((q + 1 : Nat) : Int) + 1)) = .v (.int .i64 ((q + 1 + 1 : Nat) : Int))
            rw [show ((q + 1 : Nat) : Int) + 1 = ((q + 1 + 1 : Nat) : Int) by omega]
        · have h1 : ¬ ((q + 1 : Nat) : Int) < ((m + 1 : Nat) : Int) := h1
          obtain rfl : q = m := by omega
          refine ⟨cat_le3 7000 (by simp only [List.length_cons, List.length_nil]; show (s ++ relX0 ++ rep q typX).length + _ ≤ _; omega) (by decide), rfl, _, (i64_in ((b : Int) + 1) ⟨by omega, by omega⟩).symm, b + 1, all_sl ⟨?_, ?_, trivial⟩, rfl, ole_refl _, by omega, by dsimp only; omega⟩
          · show GV.v (strV (s ++ relX0 ++ rep q typX ++ [59])) = .v (strV (spsX q k a ++ spX0 ++ rep (b + 1) (relX q)))
            rw [← rep_snoc, ← hsx]
            simp only [relX, List.append_assoc]
          · rfl
      · rintro f5 S5 ⟨W3, rfl, hfr5⟩
        refine vc_at _ hfr5 ?_
        have hcnt : cntS k a ≤ 18 := by unfold cntS; split <;> omega
        have hrl := repX_len (x := relX m) (n := cntS k a) (a := 18) (b := 53) hcnt (by rw [relX_len]; omega) 1000 (by decide)
        refine ⟨cat_le3 6000 (by
          show (spsX m k a ++ spX0 ++ rep (cntS k a) (relX m)).length + 1 ≤ 6000
          simp only [List.length_append, spX0, kNamespace, List.length_cons, List.length_nil]; omega) (by decide), W3, rfl, ⟨rfl, rfl, rfl, rfl, ?_, rfl, trivial⟩⟩
        show GV.v (strV (spsX m k a ++ spX0 ++ rep (cntS k a) (relX m) ++ [125])) = _
        rw [spsX_step]
    · rintro f5 S5 ⟨W3, rfl, hfr5⟩
      refine vc_at _ hfr5 ?_
      exact ⟨rfl, _, (i64_in ((a : Int) + 1) ⟨by omega, by omega⟩).symm, a + 1, all_sl ⟨rfl, rfl, trivial⟩, rfl, ole_refl _, by omega, by dsimp only; omega⟩
  rintro f3 S3 ⟨W2, rfl, hfr3⟩
  have hlen := spsX_len m k hm hk2 (i + 1) (by omega)
  refine vc_at _ hfr3 ?_
  refine ⟨Nat, fun q => [(9, .v (strV (spsX m k (i + 1) ++ rep q scX))), (13, .v (.int .i64 (q : Nat)))], fun _ => [], fun _ => [], fun q _ => q ≤ j, fun q => j - q, 0,
    all_sl ⟨?_, rfl, trivial⟩, rfl, ole_refl _, Nat.zero_le _, loopOK (fun _ => ⟨⟨trivial, rfl⟩, ⟨trivial, rfl⟩, trivial⟩) (fun _ => rfl) (fun _ => rfl), ?_⟩
  · show GV.v (strV (spsX m k (i + 1))) = .v (strV (spsX m k (i + 1) ++ []))
    rw [List.append_nil]
  intro q W4 l4 hq fr6
  have hsl := repX_len (x := scX) (n := q) (a := 18) (b := 18) (by omega) (by decide) 1000 (by decide)
  refine ⟨rfl, br_split (fun h1 => ?_) (fun h1 => ?_)⟩
  · have h1 : (q : Int) < j := h1
    refine ⟨cat_le3 7000 (by
      show (spsX m k (i + 1) ++ rep q scX).length + 18 ≤ 7000
      rw [List.length_append]; omega) (by decide), rfl, _, (i64_in ((q : Int) + 1) ⟨by omega, by omega⟩).symm, q + 1, all_sl ⟨?_, rfl, trivial⟩, rfl, ole_refl _, by omega, by dsimp only; omega⟩
    show GV.v (strV (spsX m k (i + 1) ++ rep q scX ++ scX)) = .v (strV (spsX m k (i + 1) ++ rep (q + 1) scX))
    rw [List.append_assoc, rep_snoc]
  have h1 : ¬ (q : Int) < j := h1
  obtain rfl : q = j := by omega
  have hr := many_rule m k i q hm hk1 hk2 hi hj
  have hgood := (ruleP_good (spsX m k (i + 1) ++ rep q scX)).b
  refine call_v rfl (fun W' _ => ruleparse_x (spsX m k (i + 1) ++ rep q scX) W') (fun W8 v W9 l8 l9 hv => ?_)
  obtain ⟨P, hP⟩ : ∃ P, ruleP (spsX m k (i + 1) ++ rep q scX) = P := ⟨_, rfl⟩
  rw [hP] at hv hr hgood
  obtain ⟨c, e⟩ := P
  obtain ⟨cells, hv, sv, kv, rfl, hS, hK⟩ := hv
  obtain ⟨a1, c1, rfl, _, _⟩ := hS.form
  obtain ⟨a2, c2, rfl, _, _⟩ := hK.form
  dsimp only at hv hS hK hgood
  subst hv
  refine ⟨_, rfl, _, rfl, ?_⟩
  by_cases hall : i + 1 ≤ 16 ∧ k ≤ 16 ∧ m + 1 ≤ 8 ∧ q ≤ 16
  · rw [if_pos hall] at hr
    simp only [Prod.mk.injEq] at hr
    obtain ⟨rfl, rfl⟩ := hr
    obtain ⟨q1, q2, q3, q4⟩ := hall
    refine ⟨rfl, ?_⟩
    apply br_split
    · intro h
      have h : (16 : Int) < ((i + 1 : Nat) : Int) := h
      omega
    intro _
    refine ⟨rfl, ?_⟩
    apply br_split
    · intro h
      have h : (16 : Int) < (k : Nat) := h
      omega
    intro _
    refine ⟨rfl, ?_⟩
    apply br_split
    · intro h
      have h : (8 : Int) < ((m + 1 : Nat) : Int) := h
      omega
    intro _
    refine ⟨rfl, ?_⟩
    apply br_split
    · intro h
      have h : (16 : Int) < (q : Nat) := h
      omega
    intro _
    have e1 : (manyC m k i q).spaces.length = i + 1 := by simp [manyC]
    have e2 : (manyC m k i q).scopes.length = q := by simp [manyC]
    have e3 : (manyP m k).rels.length = k := by simp [manyP]
    have e4 : (manyR m).types.length = m + 1 := by simp [manyR]
    obtain ⟨pa, rfl, s, es, hx, _, ⟨rv, hes, hR⟩, hall1, _⟩ := hS.at SpR.mono (PW.Le.refl _) (j := 0) ⟨by decide, by omega⟩
    obtain rfl : manyP m k = s := Option.some.inj hx
    subst hes
    obtain ⟨a3, c3, rfl, _, _⟩ := hR.form
    obtain ⟨pb, rfl, r, fs, hy, _, ⟨tv, nv, hfs, hT, hN⟩, hall2, _⟩ := hR.at RelR.mono (PW.Le.refl _) (j := 0) ⟨by decide, by omega⟩
    have hy : (List.replicate k (manyR m))[0]? = some r := hy
    obtain rfl : r = manyR m := by
      rw [List.getElem?_replicate] at hy
      split at hy
      · exact (Option.some.inj hy).symm
      · cases hy
    subst hfs
    obtain ⟨a5, c5, rfl, _, _⟩ := hT.form
    refine ⟨rfl, rfl, br_split (fun _ => ?_) (fun hne => absurd (show ((manyC m k i q).spaces.length : Int) = ((i + 1 : Nat) : Int) by rw [e1]) hne)⟩
    refine ⟨⟨by decide, by omega⟩, pa, rfl, .slice (some pb) (manyP m k).rels.length c3, (hall1 1 _ rfl).o, rfl, br_split (fun _ => ?_) (fun hne => absurd (show ((manyP m k).rels.length : Int) = (k : Nat) by rw [e3]) hne)⟩
    refine ⟨⟨by decide, by omega⟩, pa, rfl, .slice (some pb) (manyP m k).rels.length c3, (hall1 1 _ rfl).o, ⟨by decide, by omega⟩, pb, rfl, .slice a5 (manyR m).types.length c5, (hall2 1 _ rfl).o, rfl, br_split (fun _ => ?_) (fun hne => absurd (show ((manyR m).types.length : Int) = ((m + 1 : Nat) : Int) by rw [e4]) hne)⟩
    refine ⟨rfl, br_split (fun _ => ?_) (fun hne => absurd (show ((manyC m k i q).scopes.length : Int) = (q : Nat) by rw [e2]) hne)⟩
    refine call_v rfl (fun W' _ => rulelives_x W') (fun Wa v Wb _ _ hv => ?_)
    subst hv
    exact ret_plain rfl fun _ _ => rfl
  · rw [if_neg hall] at hr
    simp only [Prod.mk.injEq] at hr
    obtain ⟨rfl, rfl⟩ := hr
    refine ⟨rfl, ?_⟩
    apply br_split
    · intro _
      refine ⟨rfl, rfl, 0, rfl, rfl, ?_⟩
      refine call_v rfl (fun W' _ => rulelives_x W') (fun Wa v Wb _ _ hv => ?_)
      subst hv
      exact ret_plain rfl fun _ _ => rfl
    intro h1
    have h1 : ¬ (16 : Int) < ((i + 1 : Nat) : Int) := h1
    refine ⟨rfl, ?_⟩
    apply br_split
    · intro _
      refine ⟨rfl, rfl, 0, rfl, rfl, ?_⟩
      refine call_v rfl (fun W' _ => rulelives_x W') (fun Wa v Wb _ _ hv => ?_)
      subst hv
      exact ret_plain rfl fun _ _ => rfl
    intro h2
    have h2 : ¬ (16 : Int) < (k : Nat) := h2
    refine ⟨rfl, ?_⟩
    apply br_split
    · intro _
      refine ⟨rfl, rfl, 0, rfl, rfl, ?_⟩
      refine call_v rfl (fun W' _ => rulelives_x W') (fun Wa v Wb _ _ hv => ?_)
      subst hv
      exact ret_plain rfl fun _ _ => rfl
    intro h3
    have h3 : ¬ (8 : Int) < ((m + 1 : Nat) : Int) := h3
    refine ⟨rfl, ?_⟩
    apply br_split
    · intro _
      refine ⟨rfl, rfl, 0, rfl, rfl, ?_⟩
      refine call_v rfl (fun W' _ => rulelives_x W') (fun Wa v Wb _ _ hv => ?_)
      subst hv
      exact ret_plain rfl fun _ _ => rfl
    intro h4
    have h4 : ¬ (16 : Int) < (q : Nat) := h4
    exact absurd ⟨by omega, by omega, by omega, by omega⟩ hall
end Go.Proofs.Ytcgbcbdgjhnlaaa
