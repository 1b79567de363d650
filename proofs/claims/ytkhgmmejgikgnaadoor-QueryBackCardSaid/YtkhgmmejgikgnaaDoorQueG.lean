/- Layer 5 (query): the five statements, walked. -/
import Derived.Test.YtkhgmmejgikgnaaDoorQueF
namespace Go.Proofs.YtkhgmmejgikgnaaDoor
open Go.RowKit

theorem pairs_len : ∀ {ps : List (List UInt8)} {l : List PairS}, pairsP ps = some l → l.length = ps.length
  | [], l, h => by simp only [pairsP, Option.some.injEq] at h; subst h; rfl
  | p :: ps, l, h => by
    simp only [pairsP] at h
    split at h
    · rename_i x r h1 h2
      simp only [Option.some.injEq] at h
      subst h
      simp only [List.length_cons, pairs_len h2]
    · cases h
theorem parse_len (s : List UInt8) : (parseS s).1.length ≤ 64 := by
  unfold parseS
  split
  · exact Nat.zero_le _
  · rename_i h
    cases hp : pairsP (piecesS s) with
    | none => exact Nat.zero_le _
    | some l =>
      have := pairs_len hp
      show l.length ≤ 64
      omega
theorem qlives_x (W : PW) (h : HM W) : CallsX Tryd.prog 18 ⟨[]⟩ [] W fun v _ => v = .bool true := by
  refine pureX hmix Tryd.func18 r18 (by kernel_rfl) [] rfl ?_
  refine call_v rfl (fun W' lw => qparse_x [97, 61, 49, 43, 50] (by decide) W' (h.mono lw)) (fun W3 v W4 l3 l4 hv => ?_)
  have hp : parseS [97, 61, 49, 43, 50] = ([⟨[97], [49, 32, 50]⟩], 0) := by decide +kernel
  rw [hp] at hv
  obtain ⟨u, rfl, hr⟩ := hv
  obtain ⟨a1, c1, rfl, _, _⟩ := hr.form
  obtain ⟨p1, rfl, x, hx, _, _, hr1⟩ := hr.at (sz := 2) (fun _ => rfl) (PW.Le.refl _) (j := 0) ⟨by decide, by show (0 : Int) < ((1 : Nat) : Int); decide⟩
  obtain rfl : (⟨[97], [49, 32, 50]⟩ : PairS) = x := Option.some.inj hx
  refine ⟨_, rfl, _, rfl, rfl, rfl, ⟨by decide, by show (0 : Int) < ((1 : Nat) : Int); decide⟩, p1, rfl, pairC ⟨[97], [49, 32, 50]⟩, rfl, hr1.o, eqPair, ?_⟩
  exact ret_plain rfl fun _ _ => rfl

theorem qparses_x (s0 : List UInt8) (W : PW) (h : HM W) : CallsX Tryd.prog 3 ⟨[strV s0]⟩ [] W fun v _ => v = .bool true := by
  refine pureX hmix Tryd.func3 r3 (by kernel_rfl) [strV s0] rfl ?_
  refine call_v rfl (fun W' _ => short_x s0 400 W') (fun W2 v W3 l2 l3 hv => ?_)
  obtain ⟨s, hs, rfl⟩ : ∃ s, s.length ≤ 400 ∧ v = strV s := ⟨_, by rw [List.length_take]; omega, hv⟩
  have hl := parse_len s
  refine call_v rfl (fun W' lw => qparse_x s (by omega) W' (h.mono (l2.trans (l3.trans lw)))) (fun W4 v W5 l4 l5 hv => ?_)
  obtain ⟨r, hr⟩ : ∃ r, parseS s = r := ⟨_, rfl⟩
  rw [hr] at hl hv
  obtain ⟨l, e⟩ := r
  dsimp only at hl
  obtain ⟨u, rfl, hu⟩ := hv
  dsimp only at hu
  obtain ⟨a1, c1, rfl, _, _⟩ := hu.form
  refine ⟨_, rfl, _, rfl, ?_⟩
  refine call_v rfl (fun W' _ => refparse_x s (by omega) W') (fun W6 v W7 l6 l7 hv => ?_)
  rw [hr] at hv
  obtain ⟨u2, rfl, hu2⟩ := hv
  dsimp only at hu2
  obtain ⟨a2, c2, rfl, _, _⟩ := hu2.form
  refine ⟨_, rfl, _, rfl, ?_⟩
  refine call_v rfl (fun W' lw => samep_x l (by omega) _ _ W' (hu.mono (l6.trans (l7.trans lw))) (hu2.mono lw)) (fun W8 v W9 l8 l9 hv => ?_)
  subst hv
  refine ⟨rfl, br_yes rfl ?_⟩
  refine call_v rfl (fun W' lw => qlives_x W' (h.mono (l2.trans (l3.trans (l4.trans (l5.trans (l6.trans (l7.trans (l8.trans (l9.trans lw)))))))))) (fun Wa v Wb _ _ hv => ?_)
  subst hv
  exact ret_plain rfl fun _ _ => rfl

theorem qescapes_x (s0 t0 : List UInt8) (plus : Bool) (W : PW) (h : HM W) : CallsX Tryd.prog 6 ⟨[strV s0, strV t0, .bool plus]⟩ [] W fun v _ => v = .bool true := by
  refine pureX hmix Tryd.func6 r6 (by kernel_rfl) [strV s0, strV t0, .bool plus] rfl ?_
  refine call_v rfl (fun W' _ => short_x s0 100 W') (fun W2 v W3 l2 l3 hv => ?_)
  obtain ⟨s, hs, rfl⟩ : ∃ s, s.length ≤ 100 ∧ v = strV s := ⟨_, by rw [List.length_take]; omega, hv⟩
  refine call_v rfl (fun W' _ => short_x t0 100 W') (fun W4 v W5 l4 l5 hv => ?_)
  obtain ⟨t, ht, rfl⟩ : ∃ s, s.length ≤ 100 ∧ v = strV s := ⟨_, by rw [List.length_take]; omega, hv⟩
  refine call_v rfl (fun W' _ => unescape_x t plus (by omega) W') (fun W6 v W7 l6 l7 hv => ?_)
  obtain ⟨⟨a, e⟩, hr⟩ : ∃ r, unV (unS plus t) = r := ⟨_, rfl⟩
  rw [hr] at hv
  dsimp only at hv
  subst hv
  refine ⟨_, rfl, _, rfl, ?_⟩
  refine call_v rfl (fun W' _ => refunescape_x t plus (by omega) W') (fun W8 v W9 l8 l9 hv => ?_)
  rw [hr] at hv
  dsimp only at hv
  subst hv
  refine ⟨_, rfl, _, rfl, ?_⟩
  refine call_v rfl (fun W' _ => escape_x s (by omega) W') (fun W10 v W11 l10 l11 hv => ?_)
  obtain ⟨x, hx, rfl⟩ : ∃ x, escS s = x ∧ v = strV x := ⟨_, rfl, hv⟩
  refine call_v rfl (fun W' _ => refescape_x s (by omega) W') (fun W12 v W13 l12 l13 hv => ?_)
  rw [hx] at hv
  subst hv
  refine br_yes rfl ?_
  refine br_yes rfl ?_
  refine ⟨rfl, br_yes rfl ?_⟩
  refine call_v rfl (fun W' lw => qlives_x W' (h.mono (l2.trans (l3.trans (l4.trans (l5.trans (l6.trans (l7.trans (l8.trans (l9.trans (l10.trans (l11.trans (l12.trans (l13.trans lw)))))))))))))) (fun Wa v Wb _ _ hv => ?_)
  subst hv
  exact ret_plain rfl fun _ _ => rfl

theorem few_lit {n k : Nat} (hn : n ≤ 1000) (hk : k ≤ 1000) (l : List PairS) : Lit (fewL n k l) := by
  refine ⟨by unfold fewL; rw [List.length_map, List.length_take]; omega, fun p hp => ?_⟩
  obtain ⟨q, _, rfl⟩ := List.mem_map.1 hp
  unfold fewP
  exact ⟨by rw [List.length_take]; omega, by rw [List.length_take]; omega⟩
theorem few_len (n k : Nat) (l : List PairS) : (fewL n k l).length ≤ n := by unfold fewL; rw [List.length_map, List.length_take]; omega
theorem few_short {n k : Nat} (l : List PairS) : ∀ p ∈ fewL n k l, p.name.length ≤ k ∧ p.value.length ≤ k := fun p hp => by
  obtain ⟨q, _, rfl⟩ := List.mem_map.1 hp
  unfold fewP
  exact ⟨by rw [List.length_take]; omega, by rw [List.length_take]; omega⟩
theorem print_few {n k : Nat} {l : List PairS} (h1 : l.length ≤ n) (h2 : ∀ p ∈ l, p.name.length ≤ k ∧ p.value.length ≤ k) : (printS l).length ≤ n * (6 * k + 2) := by
  have := joinW_len [38] (6 * k + 1) (l.map pairT) fun x hx => by
    obtain ⟨p, hp, rfl⟩ := List.mem_map.1 hx
    have h1 := escS_len p.name
    have h2 := escS_len p.value
    have h3 := ‹∀ p ∈ l, p.name.length ≤ k ∧ p.value.length ≤ k› p hp
    unfold pairT
    simp only [List.length_append, List.length_cons]; omega
  rw [List.length_map] at this
  unfold printS
  exact Nat.le_trans this (Nat.mul_le_mul h1 (Nat.le_refl _))

theorem qprints_x (l0 : List PairS) (name : List UInt8) (u : Value) (W : PW) (h : HM W) (hr : RP pairC W u l0) : CallsX Tryd.prog 9 ⟨[u, strV name]⟩ [] W fun v _ => v = .bool true := by
  obtain ⟨a0, c0, rfl, _, _⟩ := hr.form
  refine pureX hmix Tryd.func9 r9 (by kernel_rfl) [.slice a0 l0.length c0, strV name] rfl ?_
  refine call_v rfl (fun W' lw => fewp_x l0 70 20 (by decide) _ W' (hr.mono lw)) (fun W2 v W3 l2 l3 hv => ?_)
  have hlit := few_lit (n := 70) (k := 20) (by decide) (by decide) l0
  obtain ⟨l, hl⟩ : ∃ l, fewL 70 20 l0 = l := ⟨_, rfl⟩
  rw [hl] at hv hlit
  have hl1 := hlit.1
  obtain ⟨a1, c1, rfl, _, _⟩ := RP.form hv
  refine call_v rfl (fun W' lw => get_x l name (by omega) _ W' (RP.mono hv lw)) (fun W4 v W5 l4 l5 hg => ?_)
  obtain ⟨⟨x, e⟩, hr⟩ : ∃ r, getS l name = r := ⟨_, rfl⟩
  rw [hr] at hg
  dsimp only at hg
  subst hg
  refine ⟨_, rfl, _, rfl, ?_⟩
  refine call_v rfl (fun W' lw => refget_x l name (by omega) _ W' (RP.mono hv (l4.trans (l5.trans lw)))) (fun W6 v W7 l6 l7 hg => ?_)
  rw [hr] at hg
  dsimp only at hg
  subst hg
  refine ⟨_, rfl, _, rfl, ?_⟩
  have l57 := l4.trans (l5.trans (l6.trans l7))
  refine call_v rfl (fun W' lw => qprint_x l hlit _ W' (RP.mono hv (l57.trans lw))) (fun W8 v W9 l8 l9 hg => ?_)
  obtain ⟨y, hy, rfl⟩ : ∃ y, printS l = y ∧ v = strV y := ⟨_, rfl, hg⟩
  refine call_v rfl (fun W' lw => refprint_x l hlit _ W' (RP.mono hv (l57.trans (l8.trans (l9.trans lw))))) (fun W10 v W11 l10 l11 hg => ?_)
  rw [hy] at hg
  subst hg
  refine br_yes rfl ?_
  refine br_yes rfl ?_
  refine ⟨rfl, br_yes rfl ?_⟩
  refine call_v rfl (fun W' lw => qlives_x W' (h.mono (l2.trans (l3.trans (l57.trans (l8.trans (l9.trans (l10.trans (l11.trans lw))))))))) (fun Wa v Wb _ _ hv => ?_)
  subst hv
  exact ret_plain rfl fun _ _ => rfl

theorem qback_x (l0 : List PairS) (s0 : List UInt8) (plus : Bool) (u : Value) (W : PW) (h : HM W) (hr : RP pairC W u l0) : CallsX Tryd.prog 8 ⟨[u, strV s0, .bool plus]⟩ [] W fun v _ => v = .bool true := by
  obtain ⟨a0, c0, rfl, _, _⟩ := hr.form
  refine pureX hmix Tryd.func8 r8 (by kernel_rfl) [.slice a0 l0.length c0, strV s0, .bool plus] rfl ?_
  refine call_v rfl (fun W' lw => fewp_x l0 64 20 (by decide) _ W' (hr.mono lw)) (fun W2 v W3 l2 l3 hv => ?_)
  have hlit := few_lit (n := 64) (k := 20) (by decide) (by decide) l0
  have h64 := few_len 64 20 l0
  have hsh := few_short (n := 64) (k := 20) l0
  obtain ⟨l, hl⟩ : ∃ l, fewL 64 20 l0 = l := ⟨_, rfl⟩
  rw [hl] at hv hlit h64 hsh
  obtain ⟨a1, c1, rfl, _, _⟩ := RP.form hv
  refine call_v rfl (fun W' _ => short_x s0 100 W') (fun W4 v W5 l4 l5 hg => ?_)
  obtain ⟨s, hs, rfl⟩ : ∃ s, s.length ≤ 100 ∧ v = strV s := ⟨_, by rw [List.length_take]; omega, hg⟩
  refine call_v rfl (fun W' _ => escape_x s (by omega) W') (fun W6 v W7 l6 l7 hg => ?_)
  have hes := escS_len s
  have hun := un_esc plus s
  obtain ⟨x, hx, rfl⟩ : ∃ x, escS s = x ∧ v = strV x := ⟨_, rfl, hg⟩
  rw [hx] at hes hun
  refine call_v rfl (fun W' _ => unescape_x x plus (by omega) W') (fun W8 v W9 l8 l9 hg => ?_)
  rw [hun] at hg
  have hg : v = .tuple ⟨[strV s, .int .i64 0]⟩ := hg
  subst hg
  refine ⟨_, rfl, _, rfl, ?_⟩
  have l39 := l4.trans (l5.trans (l6.trans (l7.trans (l8.trans l9))))
  refine call_v rfl (fun W' lw => qprint_x l hlit _ W' (RP.mono hv (l39.trans lw))) (fun W10 v W11 l10 l11 hg => ?_)
  have hpl := print_few h64 hsh
  have hpp := parse_print h64
  obtain ⟨y, hy, rfl⟩ : ∃ y, printS l = y ∧ v = strV y := ⟨_, rfl, hg⟩
  rw [hy] at hpl hpp
  refine call_v rfl (fun W' lw => qparse_x y (by omega) W' (h.mono (l2.trans (l3.trans (l39.trans (l10.trans (l11.trans lw))))))) (fun W12 v W13 l12 l13 hg => ?_)
  rw [hpp] at hg
  obtain ⟨u2, rfl, hu2⟩ := hg
  dsimp only at hu2
  obtain ⟨a2, c2, rfl, _, _⟩ := hu2.form
  refine ⟨_, rfl, _, rfl, rfl, ?_⟩
  refine br_yes rfl ?_
  refine ⟨rfl, ?_⟩
  refine call_v rfl (fun W' lw => samep_x l (by omega) _ _ W' (RP.mono hv (l39.trans (l10.trans (l11.trans (l12.trans (l13.trans lw)))))) (hu2.mono lw)) (fun W14 v W15 l14 l15 hg => ?_)
  subst hg
  refine call_v rfl (fun W' lw => qlives_x W' (h.mono (l2.trans (l3.trans (l39.trans (l10.trans (l11.trans (l12.trans (l13.trans (l14.trans (l15.trans lw))))))))))) (fun Wa v Wb _ _ hv => ?_)
  subst hv
  exact ret_plain rfl fun _ _ => rfl

/-! ## Many -/
theorem within_nat (x : Int) (lo hi : Nat) (h : lo ≤ hi) : ∃ n : Nat, lo ≤ n ∧ n ≤ hi ∧ (if x < lo then (lo : Int) else if (hi : Int) < x then hi else x) = n := by
  by_cases h1 : x < lo
  · exact ⟨lo, Nat.le_refl _, h, by rw [if_pos h1]⟩
  · by_cases h2 : (hi : Int) < x
    · exact ⟨hi, h, Nat.le_refl _, by rw [if_neg h1, if_pos h2]⟩
    · exact ⟨x.toNat, by omega, by omega, by rw [if_neg h1, if_neg h2]; omega⟩
def unitT (m : Nat) : List UInt8 := 97 :: 38 :: List.replicate m 38
theorem most_snoc (m : Nat) : ∀ n, mostT m (n + 1) = mostT m n ++ unitT m
  | 0 => by simp [mostT, unitT]
  | n + 1 => by
    show 97 :: 38 :: (List.replicate m 38 ++ mostT m (n + 1)) = (97 :: 38 :: (List.replicate m 38 ++ mostT m n)) ++ unitT m
    rw [most_snoc m n]
    simp
theorem most_len (m : Nat) : ∀ n, (mostT m n).length = n * (m + 2)
  | 0 => by simp [mostT]
  | n + 1 => by
    rw [most_snoc, List.length_append, most_len m n]
    simp [unitT, Nat.add_mul]
set_option maxHeartbeats 4000000 in
theorem qmost_x (x y : Int) (W : PW) (h : HM W) : CallsX Tryd.prog 5 ⟨[.int .i64 x, .int .i64 y]⟩ [] W fun v _ => v = .bool true := by
  refine pureX hmix Tryd.func5 r5 (by kernel_rfl) [.int .i64 x, .int .i64 y] rfl ?_
  refine call_v rfl (fun W' _ => within_x x 0 70 W') (fun W2 v W3 l2 l3 hv => ?_)
  obtain ⟨n, hn1, hn2, hn⟩ := within_nat x 0 70 (by decide)
  have hv : v = .int .i64 (n : Nat) := by rw [hv, ← hn]; rfl
  subst hv
  refine call_v rfl (fun W' _ => within_x y 0 20 W') (fun W4 v W5 l4 l5 hv => ?_)
  obtain ⟨m, hm1, hm2, hm⟩ := within_nat y 0 20 (by decide)
  have hv : v = .int .i64 (m : Nat) := by rw [hv, ← hm]; rfl
  subst hv
  have l05 := l2.trans (l3.trans (l4.trans l5))
  refine ⟨Nat × List UInt8, fun t => [(5, .v (strV t.2)), (6, .v (.int .i64 t.1))], fun _ => [], fun _ => [], fun t _ => t.1 ≤ n ∧ t.2 = mostT m t.1, fun t => n - t.1, (0, []),
    all_sl ⟨rfl, rfl, trivial⟩, rfl, ole_refl _, ⟨Nat.zero_le _, rfl⟩, loopOK (fun _ => ⟨⟨trivial, rfl⟩, ⟨trivial, rfl⟩, trivial⟩) (fun _ => rfl) (fun _ => rfl), ?_⟩
  rintro ⟨i, t⟩ W6 l6 ⟨hi, ht⟩ fr
  dsimp only at hi ht
  have hmul : i * (m + 2) ≤ 70 * 22 := Nat.mul_le_mul (by omega) (by omega)
  have htl : t.length ≤ 1540 := by rw [ht, most_len]; omega
  refine ⟨rfl, br_split (fun hq => ?_) (fun hq => ?_)⟩
  · have hq : (i : Int) < n := hq
    refine ⟨cat_q 2000 (by show t.length + 2 ≤ _; omega) (by decide), ?_⟩
    refine ⟨Nat × List UInt8, fun r => [(5, .v (strV r.2)), (7, .v (.int .i64 r.1))], fun _ => [], fun _ => [], fun r _ => r.1 ≤ m ∧ r.2 = t ++ [97, 38] ++ List.replicate r.1 38, fun r => m - r.1, (0, t ++ [97, 38]),
      all_sl ⟨rfl, rfl, trivial⟩, rfl, ole_refl _, ⟨Nat.zero_le _, by simp⟩, loopOK (fun _ => ⟨⟨trivial, rfl⟩, ⟨trivial, rfl⟩, trivial⟩) (fun _ => rfl) (fun _ => rfl), ?_⟩
    rintro ⟨k, q⟩ W7 l7 ⟨hk, hqt⟩ fr2
    dsimp only at hk hqt
    have hql : q.length ≤ 1600 := by rw [hqt]; simp; omega
    refine ⟨rfl, br_split (fun hq2 => ?_) (fun hq2 => ?_)⟩
    · have hq2 : (k : Int) < m := hq2
      refine ⟨cat_q 2000 (by show q.length + 1 ≤ _; omega) (by decide), ?_⟩
      refine ⟨rfl, _, (i64_in ((k : Int) + 1) ⟨by omega, by omega⟩).symm, (k + 1, q ++ [38]), all_sl ⟨rfl, rfl, trivial⟩, rfl, ole_refl _, ⟨by dsimp only; omega, ?_⟩, by dsimp only; omega⟩
      dsimp only
      rw [hqt, List.replicate_succ', ← List.append_assoc]
    · have hq2 : ¬ (k : Int) < m := hq2
      obtain rfl : k = m := by omega
      refine ⟨rfl, _, (i64_in ((i : Int) + 1) ⟨by omega, by omega⟩).symm, (i + 1, q), all_sl ⟨rfl, rfl, trivial⟩, rfl, ole_refl _, ⟨by dsimp only; omega, ?_⟩, by dsimp only; omega⟩
      dsimp only
      rw [most_snoc, hqt, ht]
      simp [unitT]
  · have hq : ¬ (i : Int) < n := hq
    obtain rfl : i = n := by omega
    have hp := parse_most m i
    rw [← ht] at hp
    refine call_v rfl (fun W' lw => qparse_x t (by omega) W' (h.mono (l05.trans (l6.trans lw)))) (fun W8 v W9 l8 l9 hv => ?_)
    have hlv : ∀ W', W9.Le W' → CallsX Tryd.prog 18 ⟨[]⟩ [] W' fun v _ => v = .bool true := fun W' lw => qlives_x W' (h.mono (l05.trans (l6.trans (l8.trans (l9.trans lw)))))
    by_cases h64 : 64 < i
    · rw [hp, if_pos h64] at hv
      obtain ⟨u, rfl, hu⟩ := hv
      obtain ⟨a1, c1, rfl, _, _⟩ := hu.form
      refine ⟨_, rfl, _, rfl, rfl, ?_⟩
      refine br_yes (show (64 : Int) < (i : Int) by omega) ?_
      refine ⟨rfl, rfl, ?_⟩
      refine call_v rfl (fun W' lw => hlv W' lw) (fun Wa v Wb _ _ hv => ?_)
      subst hv
      exact ret_plain rfl fun _ _ => rfl
    · rw [hp, if_neg h64] at hv
      obtain ⟨u, rfl, hu⟩ := hv
      obtain ⟨a1, c1, rfl, _, _⟩ := hu.form
      refine ⟨_, rfl, _, rfl, rfl, ?_⟩
      refine br_no (show ¬ (64 : Int) < (i : Int) by omega) ?_
      refine ⟨rfl, rfl, ?_⟩
      refine br_yes (show (((List.replicate i (⟨[97], []⟩ : PairS)).length : Nat) : Int) = (i : Int) by rw [List.length_replicate]) ?_
      refine call_v rfl (fun W' lw => hlv W' lw) (fun Wa v Wb _ _ hv => ?_)
      subst hv
      exact ret_plain rfl fun _ _ => rfl
end Go.Proofs.YtkhgmmejgikgnaaDoor
