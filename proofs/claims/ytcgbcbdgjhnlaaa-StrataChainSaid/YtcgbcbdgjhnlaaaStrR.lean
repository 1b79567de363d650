/- Layer 18 (strata), walked: the law of chains. -/
import Derived.Test.YtcgbcbdgjhnlaaaStrN
import Derived.Test.YtcgbcbdgjhnlaaaStrQ
namespace Go.Proofs.Ytcgbcbdgjhnlaaa
open Go.RowKit

theorem and7 (n : Int) : ∃ m : Nat, m ≤ 7 ∧ Op.intBits .and .i64 n 7 = pure (.int .i64 (m : Int)) := by
  have h : (BitVec.ofInt 64 n &&& BitVec.ofInt 64 7).toNat ≤ 7 := by
    rw [BitVec.toNat_and]; exact Nat.le_trans Nat.and_le_right (by decide)
  refine ⟨_, h, ?_⟩
  show pure (Value.int .i64 (IntKind.i64.wrap (((BitVec.ofInt 64 n &&& BitVec.ofInt 64 7).toNat : Nat) : Int))) = _
  rw [i64_in _ ⟨by omega, by omega⟩]
theorem smC_of {c : ConfS} (h : okCB c) (hs : smB c = true) : SmC c := by
  unfold smB at hs
  simp only [Bool.and_eq_true, Nat.ble_eq, List.all_eq_true] at hs
  obtain ⟨⟨h1, h2⟩, h3⟩ := hs
  refine ⟨fun sp hsp => ⟨(h.sp sp hsp).name, fun r hr => ?_⟩, h.sc, h1, fun sp hsp => (h3 sp hsp).1, h2⟩
  have hr2 := (h.sp sp hsp).rels r hr
  have h4 := (h3 sp hsp).2 r hr
  unfold smR at h4
  simp only [Bool.and_eq_true, Bool.or_eq_true, Nat.ble_eq, List.all_eq_true, decide_eq_true_eq] at h4
  obtain ⟨⟨h5, h6⟩, h7⟩ := h4
  refine ⟨hr2.name, h5, h6, hr2.types, fun n hn => ?_⟩
  obtain ⟨⟨h8, h9⟩, h10⟩ := h7 n hn
  exact ⟨⟨by omega, by omega⟩, fun hk => h10.elim (fun h => absurd h (by omega)) fun h => ⟨h.1.1.1, h.1.1.2, h.1.2, h.2⟩⟩
set_option maxRecDepth 20000 in
set_option maxHeartbeats 16000000 in
theorem slives_x (W : PW) : CallsX Try.prog 63 ⟨[]⟩ [] W fun v _ => v = .bool true := by
  obtain ⟨hp, hsm, hnum⟩ := chOK_get liv_ok
  refine pureX hmix Try.func63 r63 (by kernel_rfl) [] rfl ?_
  refine call_v rfl (fun W' _ => ruleparse_x livT W') (fun W2 v W3 _ _ hv => ?_)
  obtain ⟨cells, rfl, hC⟩ := hv
  have hok := (ruleP_good livT).b
  have hS := smC_of hok hsm
  obtain ⟨c, hc⟩ : ∃ c, (ruleP livT).1 = c := ⟨_, rfl⟩
  rw [hc] at hC hok hS hnum
  have hC2 := hC
  obtain ⟨sv, kv, rfl, g1, g2⟩ := hC
  obtain ⟨A0, c0, rfl, _, _⟩ := g1.form
  obtain ⟨A1, c1, rfl, _, _⟩ := g2.form
  refine ⟨_, rfl, _, rfl, ?_⟩
  refine call_v rfl (fun W' lw => numbers_x newIndex_x c _ W' hok (fun _ => hS) (ConfR.mono _ _ _ _ lw hC2)) (fun W4 v W5 l4 l5 hv => ?_)
  obtain ⟨u, rfl, hn⟩ := hv
  rw [hnum] at hn ⊢
  obtain ⟨A2, c2, rfl, _, _⟩ := RL.form hn
  obtain ⟨a2, rfl, r, cs, hr, _, hR, _, hrds⟩ := RL.at (fun W W' x c l h => let ⟨u, e, h⟩ := h; ⟨u, e, h.mono l⟩) hn (PW.Le.refl _) (j := 0) ⟨by omega, by decide⟩
  obtain rfl : r = [0, 1] := (Option.some.inj hr).symm
  obtain ⟨u2, rfl, hrow⟩ := hR
  obtain ⟨A3, c3, rfl, _, _⟩ := hrow.form
  obtain ⟨a3, rfl, x, hx, _, _, hx3⟩ := RP.at (f := natC) (sz := 1) (fun _ => rfl) hrow (PW.Le.refl _) (j := 1) ⟨by omega, by decide⟩
  obtain rfl : x = 1 := (Option.some.inj hx).symm
  refine ⟨_, rfl, _, rfl, ?_⟩
  have hrd : Rd W5 (a2.add (0 * 1)) (.slice (some a3) 2 c3) := by have h := hrds 0 _ rfl; rw [Addr.add_add] at h; exact h
  have hx4 : Rd W5 (a3.add (1 * 1)) (natV 1) := by have h := hx3 0 _ rfl; rw [Addr.add_add] at h; exact h
  refine ⟨rfl, ?_⟩
  refine ⟨rfl, ?_⟩
  refine ⟨⟨by decide, by decide⟩, _, rfl, .slice (some a3) 2 c3, hrd.o, ?_⟩
  refine ⟨rfl, ?_⟩
  refine ⟨⟨by decide, by decide⟩, _, rfl, .slice (some a3) 2 c3, hrd.o, ?_⟩
  refine ⟨⟨by decide, by decide⟩, _, rfl, natV 1, hx4.o, ?_⟩
  refine ⟨rfl, ?_⟩
  exact ret_plain rfl fun _ _ => rfl
structure ChSt where
  i : Nat
  U : List UInt8
theorem ltr_eq {a b : Nat} (h : b - a = 1) : (chN.drop a).take (b - a) = ltr a := by rw [h]; rfl
set_option maxRecDepth 20000 in
set_option maxHeartbeats 16000000 in
theorem chain_x (n : Int) (hang : Bool) (W : PW) : CallsX Try.prog 17 ⟨[.int .i64 n, .bool hang]⟩ [] W fun v _ => v = .bool true := by
  refine pureX hmix Try.func17 r17 (by kernel_rfl) [.int .i64 n, .bool hang] rfl ?_
  refine vc_assoc (vc_cut (fun f' S' => ∃ m : Nat, S' = ⟨[], [], W⟩ ∧ 2 ≤ m ∧ m ≤ 16 ∧ AllSl f' [(0, .v (.int .i64 m)), (1, .v (.bool hang))]) ?_ ?_)
  · obtain ⟨r, hr7, hand⟩ := and7 n
    have hw : ((2 + r : Nat) : Int) = IntKind.i64.wrap ((2 : Int) + r) := by rw [i64_in ((2 : Int) + r) ⟨by omega, by omega⟩]; omega
    refine ⟨rfl, br_split (fun h => ?_) (fun h => ?_)⟩
    · refine ⟨rfl, r, hand, rfl, ((2 + r : Nat) : Int), hw, 2 + r, rfl, by omega, by omega, ⟨rfl, rfl, trivial⟩⟩
    · have h : ¬ n < 2 := h
      refine ⟨rfl, br_split (fun h2 => ?_) (fun h2 => ?_)⟩
      · refine ⟨rfl, r, hand, rfl, ((2 + r : Nat) : Int), hw, 2 + r, rfl, by omega, by omega, ⟨rfl, rfl, trivial⟩⟩
      · have h2 : ¬ 16 < n := h2
        obtain ⟨m, rfl⟩ : ∃ m : Nat, n = m := ⟨n.toNat, by omega⟩
        exact ⟨m, rfl, by omega, by omega, ⟨rfl, rfl, trivial⟩⟩
  rintro f' S' ⟨m, rfl, hm2, hm16, hfr⟩
  refine vc_at _ hfr ?_
  clear hfr
  have hl41 := chS_len m hang
  refine vc_assoc (vc_assoc (vc_assoc (vc_cut (fun f' S' => S' = ⟨[], [], W⟩ ∧ AllSl f' [(0, .v (.int .i64 m)), (1, .v (.bool hang)), (5, .v (strV chN)), (6, .v (strV (chS m hang)))]) ?_ ?_)))
  · cases hang with
    | true =>
      have hw : ((m - 1 : Nat) : Int) = IntKind.i64.wrap ((m : Int) - 1) := by rw [i64_in ((m : Int) - 1) ⟨by omega, by omega⟩]; omega
      have el := ltr_eq (a := m - 1) (b := m) (by omega)
      refine ⟨by decide, rfl, ((m - 1 : Nat) : Int), hw, ⟨by omega, by omega, by show (m : Int) ≤ 16; omega⟩, ?_⟩
      have hb : ((chN.drop (m - 1)).take (m - (m - 1))).length ≤ 1 := by rw [el]; exact ltr_len _
      have hb2 : ((chB ++ chH) ++ (chN.drop (m - 1)).take (m - (m - 1))).length = 40 + ((chN.drop (m - 1)).take (m - (m - 1))).length := by rw [List.length_append]; rfl
      refine ⟨by show ((40 : Nat) : Int) + (((chN.drop (m - 1)).take (m - (m - 1))).length : Nat) ≤ 9223372036854775807; omega, ?_⟩
      refine ⟨by show ((((chB ++ chH) ++ (chN.drop (m - 1)).take (m - (m - 1))).length : Nat) : Int) + ((1 : Nat) : Int) ≤ 9223372036854775807; omega, ?_⟩
      exact ⟨rfl, ⟨rfl, rfl, rfl, congrArg (fun l => GV.v (strV (chB ++ chH ++ l ++ [59]))) el, trivial⟩⟩
    | false => exact ⟨by decide, rfl, ⟨rfl, rfl, rfl, rfl, trivial⟩⟩
  rintro f' S' ⟨rfl, hfr⟩
  refine vc_at _ hfr ?_
  clear hfr
  obtain ⟨s, hs⟩ : ∃ s, chS m hang = s := ⟨_, rfl⟩
  have hfact := chOK_get (ch_ok hm2 hm16 hang)
  have htext : chT m hang = chU s (m - 1) ++ [125] := by rw [← hs]; rfl
  obtain ⟨T, hT⟩ : ∃ T, chT m hang = T := ⟨_, rfl⟩
  rw [hT] at hfact htext
  rw [hs] at hl41 ⊢
  obtain ⟨hp, hsm, hnum⟩ := hfact
  refine ⟨ChSt, fun t => [(6, .v (strV t.U)), (7, .v (.int .i64 ((t.i + 1 : Nat) : Int)))], fun _ => [], fun _ => [], fun t _ => t.i + 1 ≤ m ∧ chU s t.i = t.U, fun t => m - t.i, ⟨0, s⟩,
    all_sl ⟨rfl, rfl, trivial⟩, rfl, ole_refl _, ⟨by dsimp only; omega, rfl⟩, loopOK (fun _ => ⟨⟨trivial, rfl⟩, ⟨trivial, rfl⟩, trivial⟩) (fun _ => rfl) (fun _ => rfl), ?_⟩
  rintro ⟨k, U⟩ W1 l1 ⟨hk, hU⟩ fr
  dsimp only at hk hU
  have hul := chU_len s k
  refine ⟨rfl, br_split (fun hq => ?_) (fun hq => ?_)⟩
  · have hq : ((k + 1 : Nat) : Int) < (m : Nat) := hq
    have w1 : ((k + 2 : Nat) : Int) = IntKind.i64.wrap (((k + 1 : Nat) : Int) + 1) := by rw [i64_in (((k + 1 : Nat) : Int) + 1) ⟨by omega, by omega⟩]; omega
    have w2 : (k : Int) = IntKind.i64.wrap (((k + 1 : Nat) : Int) - 1) := by rw [i64_in (((k + 1 : Nat) : Int) - 1) ⟨by omega, by omega⟩]; omega
    have e1 := ltr_eq (a := k + 1) (b := k + 2) (by omega)
    have e2 := ltr_eq (a := k) (b := k + 1) (by omega)
    have b1 : ((chN.drop (k + 1)).take (k + 2 - (k + 1))).length ≤ 1 := by rw [e1]; exact ltr_len _
    have b2 : ((chN.drop k).take (k + 1 - k)).length ≤ 1 := by rw [e2]; exact ltr_len _
    have hnext : chU s (k + 1) = chU s k ++ chR ++ ltr (k + 1) ++ chM ++ ltr k ++ [59] := rfl
    rw [hU] at hul hnext
    have r1 : (U ++ chR).length = U.length + 10 := by rw [List.length_append]; rfl
    have r2 : (U ++ chR ++ (chN.drop (k + 1)).take (k + 2 - (k + 1))).length = U.length + 10 + ((chN.drop (k + 1)).take (k + 2 - (k + 1))).length := by rw [List.length_append, r1]
    have r3 : (U ++ chR ++ (chN.drop (k + 1)).take (k + 2 - (k + 1)) ++ chM).length = U.length + 10 + ((chN.drop (k + 1)).take (k + 2 - (k + 1))).length + 16 := by rw [List.length_append, r2]; rfl
    have r4 : (U ++ chR ++ (chN.drop (k + 1)).take (k + 2 - (k + 1)) ++ chM ++ (chN.drop k).take (k + 1 - k)).length = U.length + 10 + ((chN.drop (k + 1)).take (k + 2 - (k + 1))).length + 16 + ((chN.drop k).take (k + 1 - k)).length := by rw [List.length_append, r3]
    refine ⟨by show ((U.length : Nat) : Int) + ((10 : Nat) : Int) ≤ 9223372036854775807; omega, ?_⟩
    refine ⟨rfl, ((k + 2 : Nat) : Int), w1, ⟨by show (0 : Int) ≤ ((k + 1 : Nat) : Int); omega, by show ((k + 1 : Nat) : Int) ≤ ((k + 2 : Nat) : Int); omega, by show ((k + 2 : Nat) : Int) ≤ 16; omega⟩, ?_⟩
    refine ⟨by show (((U ++ chR).length : Nat) : Int) + (((chN.drop (k + 1)).take (k + 2 - (k + 1))).length : Nat) ≤ 9223372036854775807; omega, ?_⟩
    refine ⟨by show (((U ++ chR ++ (chN.drop (k + 1)).take (k + 2 - (k + 1))).length : Nat) : Int) + ((16 : Nat) : Int) ≤ 9223372036854775807; omega, ?_⟩
    refine ⟨rfl, (k : Int), w2, ⟨by show (0 : Int) ≤ (k : Nat); omega, by show (k : Int) ≤ ((k + 1 : Nat) : Int); omega, by show ((k + 1 : Nat) : Int) ≤ 16; omega⟩, ?_⟩
    refine ⟨by show (((U ++ chR ++ (chN.drop (k + 1)).take (k + 2 - (k + 1)) ++ chM).length : Nat) : Int) + (((chN.drop k).take (k + 1 - k)).length : Nat) ≤ 9223372036854775807; omega, ?_⟩
    refine ⟨by show (((U ++ chR ++ (chN.drop (k + 1)).take (k + 2 - (k + 1)) ++ chM ++ (chN.drop k).take (k + 1 - k)).length : Nat) : Int) + ((1 : Nat) : Int) ≤ 9223372036854775807; omega, ?_⟩
    refine ⟨rfl, ((k + 2 : Nat) : Int), w1, ⟨k + 1, chU s (k + 1)⟩, all_sl ⟨?_, rfl, trivial⟩, rfl, ole_refl _, ⟨by dsimp only; omega, rfl⟩, by dsimp only; omega⟩
    dsimp only
    rw [hnext, ← e1, ← e2]
    rfl
  · have hq : ¬ ((k + 1 : Nat) : Int) < (m : Nat) := hq
    obtain rfl : k = m - 1 := by omega
    rw [hU] at hul htext
    refine ⟨by show ((U.length : Nat) : Int) + ((1 : Nat) : Int) ≤ 9223372036854775807; omega, ?_⟩
    refine call_v (vs := [strV (U ++ [125])]) rfl (fun W' _ => ruleparse_x (U ++ [125]) W') (fun W2 v W3 l2 l3 hv => ?_)
    rw [← htext, hp] at hv
    obtain ⟨cells, rfl, hC⟩ := hv
    have hok := (ruleP_good T).b
    have hS := smC_of hok hsm
    obtain ⟨c, hc⟩ : ∃ c, (ruleP T).1 = c := ⟨_, rfl⟩
    rw [hc] at hC hok hS hnum
    have hC2 := hC
    obtain ⟨sv, kv, rfl, g1, g2⟩ := hC
    obtain ⟨A0, c0, rfl, _, _⟩ := g1.form
    obtain ⟨A1, c1, rfl, _, _⟩ := g2.form
    refine ⟨_, rfl, _, rfl, ?_⟩
    refine ⟨rfl, ?_⟩
    refine call_v rfl (fun W' lw => numbers_x newIndex_x c _ W' hok (fun _ => hS) (ConfR.mono _ _ _ _ lw hC2)) (fun W4 v W5 l4 l5 hv => ?_)
    obtain ⟨u, rfl, hn⟩ := hv
    rw [hnum] at hn ⊢
    cases hang with
    | true =>
      dsimp only at hn
      obtain ⟨A2, c2, rfl, _, _⟩ := RL.form hn
      refine ⟨_, rfl, _, rfl, ?_⟩
      refine ⟨rfl, ?_⟩
      refine ⟨rfl, ?_⟩
      refine call_v rfl (fun W' _ => slives_x W') (fun W6 v W7 _ _ hv => ?_)
      subst hv
      exact ret_plain rfl fun _ _ => rfl
    | false =>
      dsimp only at hn
      obtain ⟨A2, c2, rfl, _, _⟩ := RL.form hn
      obtain ⟨a2, rfl, r, cs, hr, _, hR, _, hrds⟩ := RL.at (fun W W' x c l h => let ⟨u, e, h⟩ := h; ⟨u, e, h.mono l⟩) hn (PW.Le.refl _) (j := 0) ⟨by omega, by show (0 : Int) < 1; omega⟩
      obtain rfl : r = List.range m := (Option.some.inj hr).symm
      obtain ⟨u2, rfl, hrow⟩ := hR
      obtain ⟨A3, c3, rfl, _, _⟩ := hrow.form
      have hrd : Rd W5 (a2.add (0 * 1)) (.slice A3 (List.range m).length c3) := by have h := hrds 0 _ rfl; rw [Addr.add_add] at h; exact h
      rw [List.length_range] at hrd
      refine ⟨_, rfl, _, rfl, ?_⟩
      refine ⟨rfl, ?_⟩
      refine ⟨rfl, ?_⟩
      refine ⟨⟨by decide, by show (0 : Int) < 1; omega⟩, _, rfl, .slice A3 m c3, hrd.o, ?_⟩
      refine ⟨rfl, ?_⟩
      apply br_nsplit
      · intro h; exact absurd rfl h
      intro _
      refine ⟨IxSt, fun t => [(12, .v (.int .i64 t.i))], fun _ => _, fun _ => [], fun t _ => t.i ≤ m, fun t => m - t.i, ⟨0⟩,
        all_sl ⟨rfl, trivial⟩, rfl, ole_refl _, Nat.zero_le _, loopOK (fun _ => ⟨⟨trivial, rfl⟩, trivial⟩) (fun _ => rfl) (fun _ => rfl), ?_⟩
      rintro ⟨i⟩ W6 l6 hi fr2
      dsimp only at hi
      refine ⟨rfl, br_split (fun hq2 => ?_) (fun hq2 => ?_)⟩
      · have hq2 : (i : Int) < (m : Nat) := hq2
        have inc := (i64_in ((i : Int) + 1) ⟨by omega, by omega⟩).symm
        have hrow2 : RP natC W5 (.slice A3 (List.range m).length c3) (List.range m) := hrow
        obtain ⟨a3, rfl, x, hx, _, _, hx3⟩ := RP.at (f := natC) (sz := 1) (fun _ => rfl) hrow2 l6 (j := (i : Int)) ⟨by omega, by rw [List.length_range]; omega⟩
        have hx : (List.range m)[i]? = some x := hx
        obtain rfl : x = i := by
          rw [List.getElem?_range (by omega)] at hx
          exact (Option.some.inj hx).symm
        have hx4 : Rd W6 (a3.add (x * 1)) (natV x) := by have h := hx3 0 _ rfl; rw [Addr.add_add] at h; exact h
        refine ⟨⟨by decide, by show (0 : Int) < 1; omega⟩, _, rfl, .slice (some a3) m c3, (hrd.mono l6).o, ?_⟩
        refine ⟨⟨by omega, hq2⟩, _, rfl, natV x, hx4.o, ?_⟩
        refine ⟨rfl, ?_⟩
        apply br_nsplit
        · intro h; exact absurd rfl h
        intro _
        exact ⟨rfl, _, inc, ⟨x + 1⟩, all_sl ⟨rfl, trivial⟩, rfl, ole_refl _, by dsimp only; omega, by dsimp only; omega⟩
      · refine call_v rfl (fun W' _ => slives_x W') (fun W6 v W7 _ _ hv => ?_)
        subst hv
        exact ret_plain rfl fun _ _ => rfl
end Go.Proofs.Ytcgbcbdgjhnlaaa
