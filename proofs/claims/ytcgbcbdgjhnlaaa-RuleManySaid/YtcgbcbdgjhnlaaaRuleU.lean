/- The statement RuleDeep, walked. -/
import Derived.Test.YtcgbcbdgjhnlaaaGrC
namespace Go.Proofs.Ytcgbcbdgjhnlaaa
open Go.RowKit

theorem within_nat (x : Int) (lo hi : Nat) (h : lo ≤ hi) : ∃ n : Nat, lo ≤ n ∧ n ≤ hi ∧ (if x < (lo : Int) then (lo : Int) else if (hi : Int) < x then (hi : Int) else x) = n := by
  by_cases h1 : x < lo
  · exact ⟨lo, Nat.le_refl _, h, by rw [if_pos h1]⟩
  · by_cases h2 : (hi : Int) < x
    · exact ⟨hi, h, Nat.le_refl _, by rw [if_neg h1, if_pos h2]⟩
    · exact ⟨x.toNat, by omega, by omega, by rw [if_neg h1, if_neg h2]; omega⟩
theorem cat_le3 {a b : List UInt8} (n : Nat) (h : a.length + b.length ≤ n) (hn : n ≤ 1000000) : (a.length : Int) + b.length ≤ 9223372036854775807 := by omega
set_option maxHeartbeats 4000000 in
theorem ruledeep_x (x y : Int) (left : Bool) (W : PW) : CallsX Try.prog 12 ⟨[.int .i64 x, .int .i64 y, .bool left]⟩ [] W fun v _ => v = .bool true := by
  refine pureX hmix Try.func12 r12 (by kernel_rfl) [.int .i64 x, .int .i64 y, .bool left] rfl ?_
  refine vc_assoc (vc_assoc (vc_assoc (vc_assoc (vc_assoc (vc_assoc (vc_assoc (vc_cut (fun f' S' => ∃ (k o : Nat) (c : ConfS) (e : Int) (a1 : Option Addr) (c1 : Nat) (a2 : Option Addr) (c2 : Nat) (t : Tr) (W1 : PW), S' = ⟨[[.v (.slice a1 c.spaces.length c1), .v (.slice a2 c.scopes.length c2)]], [], W1⟩ ∧
    ConfR W1 c [.slice a1 c.spaces.length c1, .slice a2 c.scopes.length c2] ∧ okCB c ∧ k ≤ 40 ∧ o ≤ 80 ∧ t.ok ∧ t.dep = k + 1 ∧ ((c, e) = if 16 < o then (noConf, 5) else if k + 1 ≤ 16 then (⟨[⟨[98], [⟨[97], [], layN 0 t⟩]⟩], []⟩, 0) else (noConf, 25)) ∧
    AllSl f' [(0, .v (.int .i64 ((k + 1 : Nat) : Int))), (10, .lp 0 0), (11, .v (.int .i64 e)), (12, .v (.int .i64 (o : Nat)))]) ?_ ?_)))))))
  rotate_left
  · rintro f' S' ⟨k, o, c, e, a1, c1, a2, c2, t, W1, rfl, hC, hgood, hk, ho, ht1, ht2, hr, hfr⟩
    refine vc_at _ hfr ?_
    obtain ⟨sv, kv, ecs, hS, hK⟩ := hC
    simp only [List.cons.injEq, and_true] at ecs
    obtain ⟨rfl, rfl⟩ := ecs
    refine ⟨rfl, br_split (fun h16 => ?_) (fun h16 => ?_)⟩
    · have h16 : (16 : Int) < o := h16
      rw [if_pos (by omega)] at hr
      simp only [Prod.mk.injEq] at hr
      obtain ⟨rfl, rfl⟩ := hr
      refine ⟨rfl, ?_⟩
      refine call_v rfl (fun W' _ => rulelives_x W') (fun Wa v Wb _ _ hv => ?_)
      subst hv
      exact ret_plain rfl fun _ _ => rfl
    have h16 : ¬ (16 : Int) < o := h16
    rw [if_neg (by omega)] at hr
    refine ⟨rfl, br_split (fun hk16 => ?_) (fun hk16 => ?_)⟩
    · have hk16 : (16 : Int) < ((k + 1 : Nat) : Int) := hk16
      rw [if_neg (by omega)] at hr
      simp only [Prod.mk.injEq] at hr
      obtain ⟨rfl, rfl⟩ := hr
      refine ⟨rfl, ?_⟩
      refine call_v rfl (fun W' _ => rulelives_x W') (fun Wa v Wb _ _ hv => ?_)
      subst hv
      exact ret_plain rfl fun _ _ => rfl
    have hk16 : ¬ (16 : Int) < ((k + 1 : Nat) : Int) := hk16
    rw [if_pos (by omega)] at hr
    simp only [Prod.mk.injEq] at hr
    obtain ⟨rfl, rfl⟩ := hr
    have hnode := (hgood.sp _ (List.mem_singleton.2 rfl)).rels _ (List.mem_singleton.2 rfl)
    obtain ⟨pa, rfl, s, es, hx, _, ⟨rv, hes, hR⟩, hall, _⟩ := hS.at SpR.mono (PW.Le.refl _) (j := 0) ⟨by decide, by show (0 : Int) < ((1 : Nat) : Int); decide⟩
    obtain rfl : (⟨[98], [⟨[97], [], layN 0 t⟩]⟩ : SpaceS) = s := Option.some.inj hx
    subst hes
    obtain ⟨a3, c3, rfl, _, _⟩ := hR.form
    obtain ⟨pb, rfl, r, fs, hy, _, ⟨tv, nv, hfs, hT, hN⟩, hall2, _⟩ := hR.at RelR.mono (PW.Le.refl _) (j := 0) ⟨by decide, by show (0 : Int) < ((1 : Nat) : Int); decide⟩
    obtain rfl : (⟨[97], [], layN 0 t⟩ : RelS) = r := Option.some.inj hy
    subst hfs
    obtain ⟨a5, c5, rfl, _, _⟩ := hN.form
    refine ⟨rfl, rfl, ⟨by decide, by show (0 : Int) < ((1 : Nat) : Int); decide⟩, pa, rfl, .slice (some pb) 1 c3, (hall 1 _ rfl).o, rfl, ⟨by decide, by show (0 : Int) < ((1 : Nat) : Int); decide⟩, pa, rfl, .slice (some pb) 1 c3, (hall 1 _ rfl).o, ⟨by decide, by show (0 : Int) < ((1 : Nat) : Int); decide⟩, pb, rfl, .slice a5 (layN 0 t).length c5, (hall2 2 _ rfl).o, ?_⟩
    refine call_v rfl (fun W' lw => deep_x (layN 0 t) _ hnode.rel.1 hnode.rel.2 W' (hN.mono lw)) (fun Wa v Wb _ _ hv => ?_)
    rw [layN_deep ht1, ht2] at hv
    subst hv
    refine ⟨rfl, br_split (fun _ => ?_) (fun hne => absurd rfl hne)⟩
    refine call_v rfl (fun W' _ => rulelives_x W') (fun Wa v Wb _ _ hv => ?_)
    subst hv
    exact ret_plain rfl fun _ _ => rfl
  refine call_v rfl (fun W' _ => within_x x 1 40 W') (fun W2 v W3 _ _ hv => ?_)
  obtain ⟨n, hn1, hn2, hn⟩ := within_nat x 1 40 (by decide)
  have hv : v = .int .i64 (n : Nat) := by rw [hv, ← hn]; rfl
  subst hv
  refine call_v rfl (fun W' _ => within_x y 0 40 W') (fun W4 v W5 _ _ hv => ?_)
  obtain ⟨q, _, hq2, hq⟩ := within_nat y 0 40 (by decide)
  have hv : v = .int .i64 (q : Nat) := by rw [hv, ← hq]; rfl
  subst hv
  obtain ⟨k, rfl⟩ : ∃ k, n = k + 1 := ⟨n - 1, by omega⟩
  refine ⟨Nat, fun i => [(7, .v (strV (sSide left i))), (8, .v (.int .i64 ((i + 1 : Nat) : Int)))], fun _ => [], fun _ => [], fun i _ => i ≤ k, fun i => k - i, 0,
    all_sl ⟨by cases left <;> rfl, rfl, trivial⟩, rfl, ole_refl _, Nat.zero_le _, loopOK (fun _ => ⟨⟨trivial, rfl⟩, ⟨trivial, rfl⟩, trivial⟩) (fun _ => rfl) (fun _ => rfl), ?_⟩
  intro i W6 l6 hi fr
  have hlen := sSide_len left i
  refine ⟨rfl, br_split (fun hlt => ?_) (fun hlt => ?_)⟩
  · have hlt : ((i + 1 : Nat) : Int) < ((k + 1 : Nat) : Int) := hlt
    have wi : IntKind.i64.wrap (((i + 1 : Nat) : Int) + 1) = ((i + 1 + 1 : Nat) : Int) := by rw [i64_in _ ⟨by omega, by omega⟩]; omega
    cases left with
    | true =>
      have hlen : (sLeft i).length ≤ 1 + 6 * i := hlen
      refine ⟨cat_le3 1000 (by simp only [List.length_cons, List.length_nil]; show (sLeft i).length + _ ≤ _; omega) (by decide), rfl, _, wi.symm, i + 1, all_sl ⟨rfl, rfl, trivial⟩, rfl, ole_refl _, by omega, by dsimp only; omega⟩
    | false =>
      have hlen : (sRight i).length ≤ 1 + 6 * i := hlen
      refine ⟨cat_le3 1000 (by simp only [List.length_cons, List.length_nil]; show _ + (sRight i).length ≤ _; omega) (by decide), cat_le3 1000 (by simp only [List.length_append, List.length_cons, List.length_nil]; show _ + (sRight i).length + _ ≤ _; omega) (by decide), rfl, _, wi.symm, i + 1, all_sl ⟨rfl, rfl, trivial⟩, rfl, ole_refl _, by omega, by dsimp only; omega⟩
  have hlt : ¬ ((i + 1 : Nat) : Int) < ((k + 1 : Nat) : Int) := hlt
  obtain rfl : i = k := by omega
  refine ⟨Nat, fun j => [(7, .v (strV (sPar (sSide left i) j))), (9, .v (.int .i64 j))], fun _ => [], fun _ => [], fun j _ => j ≤ q, fun j => q - j, 0,
    all_sl ⟨rfl, rfl, trivial⟩, rfl, ole_refl _, Nat.zero_le _, loopOK (fun _ => ⟨⟨trivial, rfl⟩, ⟨trivial, rfl⟩, trivial⟩) (fun _ => rfl) (fun _ => rfl), ?_⟩
  intro j W7 l7 hj fr2
  have hlen2 := sPar_len (sSide left i) j
  refine ⟨rfl, br_split (fun hlt2 => ?_) (fun hlt2 => ?_)⟩
  · have hlt2 : (j : Int) < q := hlt2
    exact ⟨cat_le3 1000 (by simp only [List.length_cons, List.length_nil]; show _ + (sPar (sSide left i) j).length ≤ _; omega) (by decide), cat_le3 1000 (by simp only [List.length_append, List.length_cons, List.length_nil]; show _ + (sPar (sSide left i) j).length + _ ≤ _; omega) (by decide), rfl, _, (i64_in ((j : Int) + 1) ⟨by omega, by omega⟩).symm, j + 1, all_sl ⟨rfl, rfl, trivial⟩, rfl, ole_refl _, by omega, by dsimp only; omega⟩
  have hlt2 : ¬ (j : Int) < q := hlt2
  obtain rfl : j = q := by omega
  obtain ⟨t, ht1, ht2, hr⟩ := deep_rule left i j (by omega) hq2
  obtain ⟨s, hs⟩ : ∃ s, sPar (sSide left i) j = s := ⟨_, rfl⟩
  rw [hs] at hr hlen2
  have etx : [110, 97, 109, 101, 115, 112, 97, 99, 101, 32, 98, 32, 123, 32, 114, 101, 108, 97, 116, 105, 111, 110, 32, 97, 32, 61, 32] ++ s ++ [59, 32, 125] = textOf [98] [97] s := by simp [textOf, kNamespace, kRelation]
  refine ⟨cat_le3 1000 (by simp only [List.length_cons, List.length_nil]; show _ + (sPar (sSide left i) j).length ≤ _; rw [hs]; omega) (by decide), cat_le3 1000 (by simp only [List.length_append, List.length_cons, List.length_nil]; show _ + (sPar (sSide left i) j).length + _ ≤ _; rw [hs]; omega) (by decide), ?_⟩
  have hgood := (ruleP_good (textOf [98] [97] s)).b
  refine call_v rfl (fun W' _ => ruleparse_x ([110, 97, 109, 101, 115, 112, 97, 99, 101, 32, 98, 32, 123, 32, 114, 101, 108, 97, 116, 105, 111, 110, 32, 97, 32, 61, 32] ++ sPar (sSide left i) j ++ [59, 32, 125]) W') (fun W8 v W9 l8 l9 hv => ?_)
  rw [hs, etx] at hv
  obtain ⟨P, hP⟩ : ∃ P, ruleP (textOf [98] [97] s) = P := ⟨_, rfl⟩
  rw [hP] at hv hr hgood
  obtain ⟨c, e⟩ := P
  obtain ⟨cells, hv, sv, kv, rfl, hS, hK⟩ := hv
  obtain ⟨a1, c1, rfl, _, _⟩ := hS.form
  obtain ⟨a2, c2, rfl, _, _⟩ := hK.form
  dsimp only at hv hS hK hgood
  subst hv
  refine ⟨_, rfl, _, rfl, ?_⟩
  have hC : ConfR W9 c [.slice a1 c.spaces.length c1, .slice a2 c.scopes.length c2] := ⟨_, _, rfl, hS, hK⟩
  cases left with
  | true => exact ⟨i, 0 + j, c, e, a1, c1, a2, c2, t, W9, rfl, hC, hgood, by omega, by omega, ht1, ht2, hr, ⟨rfl, rfl, rfl, by rw [Nat.zero_add]; rfl, trivial⟩⟩
  | false =>
    refine ⟨rfl, _, (i64_in ((j : Int) + ((i + 1 : Nat) : Int)) ⟨by omega, by omega⟩).symm, rfl, _, (i64_in ((j : Int) + ((i + 1 : Nat) : Int) - 1) ⟨by omega, by omega⟩).symm, ?_⟩
    refine ⟨i, i + j, c, e, a1, c1, a2, c2, t, W9, rfl, hC, hgood, by omega, by omega, ht1, ht2, hr, ⟨rfl, rfl, rfl, ?_, trivial⟩⟩
    show GV.v (.int .i64 ((j : Int) + ((i + 1 : Nat) : Int) - 1)) = .v (.int .i64 ((i + j : Nat) : Int))
    rw [show (j : Int) + ((i + 1 : Nat) : Int) - 1 = ((i + j : Nat) : Int) by omega]
end Go.Proofs.Ytcgbcbdgjhnlaaa
