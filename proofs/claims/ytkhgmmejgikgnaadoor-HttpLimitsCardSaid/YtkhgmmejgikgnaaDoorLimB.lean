/- HttpLimits, walked. -/
import Derived.Test.YtkhgmmejgikgnaaDoorHttH
import Derived.Test.YtkhgmmejgikgnaaDoorLimA
import Derived.Test.YtkhgmmejgikgnaaDoorLimL
namespace Go.Proofs.YtkhgmmejgikgnaaDoor
open Go.RowKit

def xyT : List UInt8 := [120, 58, 32, 121, 13, 10]
def lim1 (t : Nat) : List UInt8 := [71, 69, 84, 32] ++ List.replicate t 47 ++ [32, 72, 84, 84, 80, 47, 49, 46, 49, 13, 10, 104, 111, 115, 116, 58, 32, 97, 13, 10]
theorem lim_text (t k d : Nat) : lim1 t ++ (List.replicate k xyT).flatten ++ [99, 111, 110, 116, 101, 110, 116, 45, 108, 101, 110, 103, 116, 104, 58, 32] ++ digE d ++ [13, 10, 13, 10] = limT t k d := by
  have e : xyT = xyL ++ [13, 10] := rfl
  unfold lim1 limT getL0 hostL clL crE
  rw [← e]
  simp only [List.append_assoc, List.cons_append, List.nil_append]
theorem lim1_len (t : Nat) : (lim1 t).length = t + 24 := by unfold lim1; simp
theorem xyT_len (k : Nat) : (List.replicate k xyT).flatten.length = 6 * k := by
  induction k with
  | zero => rfl
  | succ n ih => rw [List.replicate_succ, List.flatten_cons, List.length_append, ih]; show 6 + _ = _; omega
theorem digE_len {d : Nat} (h : d ≤ 8200) : (digE d).length ≤ 4 := by
  have h := dig_all h
  unfold digT at h
  simp only [Bool.and_eq_true, decide_eq_true_eq] at h
  exact h.1.2
def qD (n : Nat) : List UInt8 := if n = 0 then [] else Lib.decDigits n
theorem decQ (n : Nat) : Lib.decDigits n = qD (n / 10) ++ [UInt8.ofNat (48 + n % 10)] := by
  unfold qD
  by_cases h : n < 10
  · rw [if_pos (by omega), dec_one h, Nat.mod_eq_of_lt h]; rfl
  · rw [if_neg (by omega), dec_more' h]
theorem qD_len {n : Nat} (h : n ≤ 8200) : (qD n).length ≤ 4 := by
  unfold qD
  split
  · exact Nat.zero_le _
  · rw [dec_digE (by omega)]; exact digE_len h
def tenM : List UInt8 := [48, 49, 50, 51, 52, 53, 54, 55, 56, 57]
theorem tenM_one (n : Nat) (h : n < 10) : (tenM.drop n).take (n + 1 - n) = [UInt8.ofNat (48 + n)] := by
  have : ∀ n : Nat, n < 10 → (tenM.drop n).take (n + 1 - n) = [UInt8.ofNat (48 + n)] := by decide
  exact this n h
theorem mod10 {z : Int} {n : Nat} (h : z = n) : z.tmod 10 = ((n % 10 : Nat) : Int) := by subst h; rfl
theorem div10 {z : Int} {n : Nat} (h : z = n) : z.tdiv 10 = ((n / 10 : Nat) : Int) := by subst h; rfl
theorem within_nl (x : Int) (lo hi : Nat) (h : lo ≤ hi) : ∃ n : Nat, lo ≤ n ∧ n ≤ hi ∧ (if x < lo then (lo : Int) else if (hi : Int) < x then hi else x) = n := by
  by_cases h1 : x < lo
  · exact ⟨lo, Nat.le_refl _, h, by rw [if_pos h1]⟩
  · by_cases h2 : (hi : Int) < x
    · exact ⟨hi, h, Nat.le_refl _, by rw [if_neg h1, if_pos h2]⟩
    · exact ⟨x.toNat, by omega, by omega, by rw [if_neg h1, if_neg h2]; omega⟩
def unitT (m : Nat) : List UInt8 := 97 :: 38 :: List.replicate m 38
theorem flat_ones (n : Nat) (x : Value) : (List.replicate n [x]).flatten = List.replicate n x := by
  induction n with
  | zero => rfl
  | succ n ih => rw [List.replicate_succ, List.flatten_cons, ih]; rfl
theorem pars_form {W : PW} {v : Value} {r : Int × Option FirstR} (h : ParsR W v r) : ∃ m p A1 n1 c1 A2 n2 c2 A3 n3 c3, v = .tuple ⟨[.agg ⟨reqC m p (.slice A1 n1 c1) (.slice A2 n2 c2) (.slice A3 n3 c3)⟩, .int .i64 r.1]⟩ := by
  unfold ParsR at h
  split at h
  · obtain ⟨q, A, n, c, A', n', c', rfl, hq⟩ := h
    obtain ⟨aq, cq, rfl, _, _⟩ := hq.form
    exact ⟨_, _, _, _, _, _, _, _, _, _, _, rfl⟩
  · exact ⟨_, _, _, _, _, _, _, _, _, _, _, h⟩
set_option maxRecDepth 20000 in
set_option maxHeartbeats 8000000 in
theorem hlimits_x (x1 x2 x3 : Int) (W : PW) (hM : HM W) (hE : HE W) : CallsX Tryd.prog 4 ⟨[.int .i64 x1, .int .i64 x2, .int .i64 x3]⟩ [] W fun v _ => v = .bool true := by
  have hmax : (100000000 : Nat) ≤ maxLen := by decide
  refine pureX hmix Tryd.func4 r4 (by kernel_rfl) [.int .i64 x1, .int .i64 x2, .int .i64 x3] rfl ?_
  refine call_v rfl (fun W' _ => within_x x1 1 2100 W') (fun W1 v W2 l1 l2 hv => ?_)
  obtain ⟨t, ht1, ht2, hte⟩ := within_nl x1 1 2100 (by decide)
  have hv : v = .int .i64 (t : Int) := hv.trans (congrArg (Value.int .i64) hte)
  subst hv
  refine call_v rfl (fun W' _ => within_x x2 1 40 W') (fun W3 v W4 l3 l4 hv => ?_)
  obtain ⟨h, hh1, hh2, hhe⟩ := within_nl x2 1 40 (by decide)
  have hv : v = .int .i64 (h : Int) := hv.trans (congrArg (Value.int .i64) hhe)
  subst hv
  refine call_v rfl (fun W' _ => within_x x3 0 8200 W') (fun W5 v W6 l5 l6 hv => ?_)
  obtain ⟨d, hd1, hd2, hde⟩ := within_nl x3 0 8200 (by decide)
  have hv : v = .int .i64 (d : Int) := hv.trans (congrArg (Value.int .i64) hde)
  subst hv
  have lA := l1.trans (l2.trans (l3.trans (l4.trans (l5.trans l6))))
  refine ⟨⟨by omega, by omega, by omega, by omega⟩, fun b => ?_⟩
  refine ⟨Nat, fun i => [(8, .v (.int .i64 i))], fun _ => [], fun i => [⟨.slice (some ⟨b, 0, none⟩) t t, 5, 1, t, List.replicate i (.int .u8 47) ++ List.replicate (t - i) (.int .u8 0)⟩], fun i _ => i ≤ t, fun i => t - i, 0,
    all_sl ⟨rfl, trivial⟩, rfl, ole_eq ?_, Nat.zero_le _, loopOK (fun _ => ⟨⟨trivial, rfl⟩, trivial⟩) (fun _ => rfl) (fun _ => rfl), ?_⟩
  · show [_] = [_]
    simp
  intro i W7 l7 hi f
  refine ⟨rfl, br_split (fun hq => ?_) (fun hq => ?_)⟩
  · have hi2 : i < t := by have hq : (i : Int) < (t : Int) := hq; omega
    refine ⟨⟨by omega, by omega⟩, _, rfl, ?_⟩
    refine ⟨0, _, _, _, _, i, rfl, rfl, ?_, rfl, ?_, ?_, rfl, rfl, _, (i64_in ((i : Int) + 1) ⟨by omega, by omega⟩).symm, i + 1, all_sl ⟨rfl, trivial⟩, rfl, ole_eq ?_, hi2, by dsimp only; omega⟩
    · show Addr.add _ _ = Addr.add _ _
      simp
    · intro u hu; rw [List.mem_singleton.1 hu]; rfl
    · show i + 1 ≤ _
      simp; omega
    · show [_] = [_]
      congr 2
      rw [List.take_left' (by simp), List.drop_append, List.drop_eq_nil_of_le (by simp), List.nil_append, List.length_replicate, List.drop_replicate, List.replicate_succ', show i + 1 - i = 1 by omega, show t - i - 1 = t - (i + 1) by omega]
  have hin : i = t := by have hq : ¬ (i : Int) < (t : Int) := hq; omega
  subst hin
  refine ⟨List.replicate i 47, by simp, fun _ => .inr ⟨0, _, rfl, rfl, ?_⟩, ?_⟩
  · show List.replicate i (Value.int .u8 47) ++ List.replicate (i - i) (.int .u8 0) = (List.replicate i (47 : UInt8)).map byteV
    simp [byteV]
  refine ⟨cat_q 100000 (by simp; omega) (by decide), cat_q 100000 (by simp; omega) (by decide), ?_⟩
  have hlm : (lim1 i).length = i + 24 := lim1_len i
  refine ⟨Nat × List UInt8, fun u => [(9, .v (strV u.2)), (10, .v (.int .i64 u.1))], fun _ => [], fun _ => [⟨.slice (some ⟨b, 0, none⟩) i i, 5, 1, i, List.replicate i (.int .u8 47) ++ List.replicate (i - i) (.int .u8 0)⟩],
    fun u _ => 2 ≤ u.1 ∧ (u.1 ≤ h ∨ u.1 = 2) ∧ u.2 = lim1 i ++ (List.replicate (u.1 - 2) xyT).flatten, fun u => h - u.1, (2, lim1 i),
    all_sl ⟨rfl, rfl, trivial⟩, rfl, ole_refl _, ⟨Nat.le_refl _, .inr rfl, (List.append_nil _).symm⟩, loopOK (fun _ => ⟨⟨trivial, rfl⟩, ⟨trivial, rfl⟩, trivial⟩) (fun _ => rfl) (fun _ => rfl), ?_⟩
  rintro ⟨j, s⟩ W8 l8 ⟨hj1, hj2, hs⟩ f8
  dsimp only at hj1 hj2 hs
  have hsl : s.length = i + 24 + 6 * (j - 2) := by rw [hs, List.length_append, hlm, xyT_len]
  have h64 : (j : Int) < 9223372036854775807 := by omega
  refine ⟨rfl, br_split (fun hq => ?_) (fun hq => ?_)⟩
  · have hq : (j : Int) < (h : Int) := hq
    refine ⟨cat_q 100000 (by show s.length + 6 ≤ _; omega) (by decide), ?_⟩
    refine ⟨rfl, _, (i64_in ((j : Int) + 1) ⟨by omega, by omega⟩).symm, (j + 1, s ++ xyT), all_sl ⟨rfl, rfl, trivial⟩, rfl, ole_refl _, ⟨by dsimp only; omega, .inl (by dsimp only; omega), ?_⟩, by dsimp only; omega⟩
    dsimp only
    rw [hs, List.append_assoc, show j + 1 - 2 = (j - 2) + 1 by omega, List.replicate_succ', List.flatten_append]
    simp
  have hq : ¬ (j : Int) < (h : Int) := hq
  obtain ⟨k, hk⟩ : ∃ k, j - 2 = k := ⟨_, rfl⟩
  have hkh : k = h - 2 := by omega
  rw [hk] at hs hsl
  refine ⟨Nat × List UInt8, fun u => [(11, .v (strV u.2)), (12, .v (.int .i64 u.1))], fun _ => [], fun _ => [⟨.slice (some ⟨b, 0, none⟩) i i, 5, 1, i, List.replicate i (.int .u8 47) ++ List.replicate (i - i) (.int .u8 0)⟩],
    fun u _ => u.1 ≤ 8200 ∧ ((u.2 = [] ∧ u.1 = d) ∨ (¬ u.2 = [] ∧ Lib.decDigits d = qD u.1 ++ u.2)), fun u => u.1 + (bif u.2.isEmpty then 1 else 0), (d, []),
    all_sl ⟨rfl, rfl, trivial⟩, rfl, ole_refl _, ⟨hd2, .inl ⟨rfl, rfl⟩⟩, loopOK (fun _ => ⟨⟨trivial, rfl⟩, ⟨trivial, rfl⟩, trivial⟩) (fun _ => rfl) (fun _ => rfl), ?_⟩
  rintro ⟨n, s3⟩ W9 l9 ⟨hn, h3⟩ f9
  dsimp only at hn h3
  have h3l : s3.length ≤ 4 := by
    rcases h3 with ⟨e, _⟩ | ⟨_, e⟩
    · rw [e]; exact Nat.zero_le _
    · have := congrArg List.length e
      rw [dec_digE (by omega), List.length_append] at this
      have := digE_len hd2
      omega
  refine ⟨rfl, br_split (fun hp => ?c1) (fun hp => br_split (fun h0 => ?c2) (fun h0 => ?ex))⟩
  case' c1 =>
    have F : Lib.decDigits d = qD (n / 10) ++ ([UInt8.ofNat (48 + n % 10)] ++ s3) := by
      have hp : (0 : Int) < (n : Int) := hp
      rcases h3 with ⟨rfl, rfl⟩ | ⟨_, e⟩
      · rw [decQ n]; rfl
      · rw [e, show qD n = Lib.decDigits n from if_neg (by omega), decQ n, List.append_assoc]
    have M : n / 10 + (bif ([UInt8.ofNat (48 + n % 10)] ++ s3).isEmpty then 1 else 0) < n + (bif s3.isEmpty then 1 else 0) := by
      have hp : (0 : Int) < (n : Int) := hp
      show n / 10 + 0 < _
      omega
  case' c2 =>
    have F : Lib.decDigits d = qD (n / 10) ++ ([UInt8.ofNat (48 + n % 10)] ++ s3) := by
      have h0 : s3 = [] := h0
      rcases h3 with ⟨rfl, rfl⟩ | ⟨e, _⟩
      · rw [decQ n]; rfl
      · exact absurd h0 e
    have M : n / 10 + (bif ([UInt8.ofNat (48 + n % 10)] ++ s3).isEmpty then 1 else 0) < n + (bif s3.isEmpty then 1 else 0) := by
      have h0 : s3 = [] := h0
      have hp : ¬ (0 : Int) < (n : Int) := hp
      subst h0
      show n / 10 + 0 < n + 1
      omega
  case c1 | c2 =>
    obtain ⟨m, hm⟩ : ∃ m, n % 10 = m := ⟨_, rfl⟩
    have hm10 : m < 10 := by omega
    rw [hm] at F M
    refine ⟨rfl, by decide, rfl, by decide, rfl, ((m + 1 : Nat) : Int), ?_, ?_⟩
    · show ((m + 1 : Nat) : Int) = IntKind.i64.wrap ((n : Int).tmod 10 + 1)
      rw [mod10 rfl, hm, i64_in _ ⟨by omega, by omega⟩]; rfl
    have hx : (n : Int).tmod 10 = m := by rw [mod10 rfl, hm]
    generalize (n : Int).tmod 10 = x at hx ⊢
    subst hx
    refine ⟨⟨by omega, by show ((m : Nat) : Int) ≤ ((m + 1 : Nat) : Int); omega, by show ((m + 1 : Nat) : Int) ≤ 10; omega⟩, ?_⟩
    have et : (tenM.drop ((m : Nat) : Int).toNat).take (((m + 1 : Nat) : Int).toNat - ((m : Nat) : Int).toNat) = [UInt8.ofNat (48 + m)] := tenM_one m hm10
    refine ⟨cat_q 100000 (by show ((tenM.drop ((m : Nat) : Int).toNat).take (((m + 1 : Nat) : Int).toNat - ((m : Nat) : Int).toNat)).length + s3.length ≤ _; rw [et]; show 1 + s3.length ≤ _; omega) (by decide), ?_⟩
    refine ⟨rfl, by decide, ((n / 10 : Nat) : Int), (by show ((n / 10 : Nat) : Int) = IntKind.i64.wrap ((n : Int).tdiv 10); rw [div10 rfl, i64_in _ ⟨by omega, by omega⟩]), ?_⟩
    refine ⟨(n / 10, (tenM.drop ((m : Nat) : Int).toNat).take (((m + 1 : Nat) : Int).toNat - ((m : Nat) : Int).toNat) ++ s3), all_sl ⟨rfl, rfl, trivial⟩, rfl, ole_refl _, ⟨by dsimp only; omega, .inr ?_⟩, ?_⟩
    · dsimp only
      rw [et]
      exact ⟨by simp, F⟩
    · dsimp only
      rw [et]
      exact M
  have hp : ¬ (0 : Int) < (n : Int) := hp
  have h0 : ¬ s3 = [] := h0
  obtain ⟨_, h3⟩ := h3.resolve_left fun e => h0 e.1
  obtain rfl : n = 0 := by omega
  have h3 : digE d = s3 := by rw [← dec_digE (by omega), h3]; rfl
  have hT : s ++ [99, 111, 110, 116, 101, 110, 116, 45, 108, 101, 110, 103, 116, 104, 58, 32] ++ s3 ++ [13, 10, 13, 10] = limT i k d := by
    rw [hs, ← h3]; exact lim_text i k d
  have hlaw := lim_law (t := i) (k := k) (d := d) ht1 (by omega) (by omega) hd2
  rw [← hT] at hlaw
  have hTl : (s ++ [99, 111, 110, 116, 101, 110, 116, 45, 108, 101, 110, 103, 116, 104, 58, 32] ++ s3 ++ [13, 10, 13, 10]).length = s.length + 16 + s3.length + 4 := by
    rw [List.length_append, List.length_append, List.length_append]; rfl
  clear hT hs
  refine ⟨cat_q 100000 (by show s.length + 16 ≤ _; omega) (by decide), cat_q 100000 (by rw [List.length_append]; show s.length + 16 + s3.length ≤ _; omega) (by decide), cat_q 100000 (by rw [List.length_append, List.length_append]; show s.length + 16 + s3.length + 4 ≤ _; omega) (by decide), ?_⟩
  refine ⟨by rw [hTl]; omega, fun b2 c2 W10 l10 hc1 hc2 hrd hbk => ?_⟩
  refine raw_zeros (d := d) rfl rfl Tryd.underlying33 Tryd.underlying3 rfl rfl rfl rfl rfl rfl hbk.1 hbk.2 hrd hc1 hc2 (by rw [hTl]; omega) (by omega) (fun b3 c3 W11 l11 hc3 hc4 hrd3 => ?_)
  have lB := lA.trans (l7.trans (l8.trans (l9.trans (l10.trans l11))))
  obtain ⟨L, hL⟩ : ∃ L, s ++ [99, 111, 110, 116, 101, 110, 116, 45, 108, 101, 110, 103, 116, 104, 58, 32] ++ s3 ++ [13, 10, 13, 10] = L := ⟨_, rfl⟩
  have hrb : RB W11 (.slice (some ⟨b3, 0, none⟩) (L ++ List.replicate d 0).length c3) (L ++ List.replicate d 0) := by
    have hl : (L ++ List.replicate d (0 : UInt8)).length = (s ++ [99, 111, 110, 116, 101, 110, 116, 45, 108, 101, 110, 103, 116, 104, 58, 32] ++ s3 ++ [13, 10, 13, 10]).length + d := by rw [← hL, List.length_append, List.length_replicate]
    refine ⟨_, _, rfl, by rw [hl]; exact hc3, hc4, fun _ => ⟨_, rfl, ?_⟩⟩
    rw [← hL]
    exact hrd3
  have hcall : ∀ W', W11.Le W' → CallsX Tryd.prog 20 ⟨[.slice (some ⟨b3, 0, none⟩) ((s ++ [99, 111, 110, 116, 101, 110, 116, 45, 108, 101, 110, 103, 116, 104, 58, 32] ++ s3 ++ [13, 10, 13, 10]).length + d) c3]⟩ [] W' fun v W'' => ParsR W'' v (httpS (L ++ List.replicate d 0)) := fun W' lw => by
    have hl : (s ++ [99, 111, 110, 116, 101, 110, 116, 45, 108, 101, 110, 103, 116, 104, 58, 32] ++ s3 ++ [13, 10, 13, 10]).length + d = (L ++ List.replicate d (0 : UInt8)).length := by rw [hL, List.length_append, List.length_replicate]
    have hll : (L ++ List.replicate d (0 : UInt8)).length ≤ 100000 := by rw [← hl, hTl]; omega
    rw [hl]
    exact hparse_x (L ++ List.replicate d 0) hll _ c3 (fun e => by cases e) W' (hM.mono (lB.trans lw)) (hE.mono (lB.trans lw)) (hrb.mono lw)
  rw [hL] at hlaw
  refine call_v rfl hcall (fun W12 v W13 l12 l13 hv => ?_)
  have lC := lB.trans (l12.trans l13)
  have hlive : ∀ W', W13.Le W' → CallsX Tryd.prog 21 ⟨[]⟩ [] W' fun v _ => v = .bool true := fun W' lw => hlives_x W' (hM.mono (lC.trans lw)) (hE.mono (lC.trans lw))
  obtain ⟨m, p, A1, n1, c1, A2, n2, c2, A3, n3, c4, rfl⟩ := pars_form hv
  obtain ⟨z, hz⟩ : ∃ z, (httpS (L ++ List.replicate d 0)).1 = z := ⟨_, rfl⟩
  rw [hz] at hlaw
  rw [hz]
  clear hv
  refine ⟨_, rfl, _, rfl, rfl, br_split (fun hq2 => ?_) (fun hq2 => ?_)⟩
  all_goals
    refine ⟨rfl, _, (i64_in ((i : Int) + 13) ⟨by omega, by omega⟩).symm, rfl, br_split (fun hb1 => ?_) (fun hb1 => ?_)⟩
  · have hb1 : (2048 : Int) < (i : Int) + 13 := hb1
    obtain rfl : z = 5 := by rw [hlaw, if_pos (.inl (by omega))]
    refine ⟨rfl, call_v rfl hlive (fun W14 v W15 l14 l15 hv => ?_)⟩
    subst hv
    exact ret_plain rfl fun _ _ => rfl
  · have hb1 : ¬ (2048 : Int) < (i : Int) + 13 := hb1
    have hq2 : (h : Int) < 2 := hq2
    refine ⟨rfl, rfl, br_split (fun hb2 => ?_) (fun hb2 => ?_)⟩
    · have hb2 : (8192 : Int) < (d : Int) := hb2
      obtain rfl : z = 5 := by rw [hlaw, if_pos (by omega)]
      refine ⟨rfl, call_v rfl hlive (fun W14 v W15 l14 l15 hv => ?_)⟩
      subst hv
      exact ret_plain rfl fun _ _ => rfl
    · have hb2 : ¬ (8192 : Int) < (d : Int) := hb2
      obtain rfl : z = 0 := by rw [hlaw, if_neg (by omega)]
      refine ⟨rfl, call_v rfl hlive (fun W14 v W15 l14 l15 hv => ?_)⟩
      subst hv
      exact ret_plain rfl fun _ _ => rfl
  · have hb1 : (2048 : Int) < (i : Int) + 13 := hb1
    obtain rfl : z = 5 := by rw [hlaw, if_pos (.inl (by omega))]
    refine ⟨rfl, call_v rfl hlive (fun W14 v W15 l14 l15 hv => ?_)⟩
    subst hv
    exact ret_plain rfl fun _ _ => rfl
  · have hb1 : ¬ (2048 : Int) < (i : Int) + 13 := hb1
    refine ⟨rfl, br_split (fun hb3 => ?_) (fun hb3 => ?_)⟩
    · have hb3 : (32 : Int) < (h : Int) := hb3
      obtain rfl : z = 5 := by rw [hlaw, if_pos (by omega)]
      refine ⟨rfl, call_v rfl hlive (fun W14 v W15 l14 l15 hv => ?_)⟩
      subst hv
      exact ret_plain rfl fun _ _ => rfl
    have hb3 : ¬ (32 : Int) < (h : Int) := hb3
    refine ⟨rfl, br_split (fun hb2 => ?_) (fun hb2 => ?_)⟩
    · have hb2 : (8192 : Int) < (d : Int) := hb2
      obtain rfl : z = 5 := by rw [hlaw, if_pos (by omega)]
      refine ⟨rfl, call_v rfl hlive (fun W14 v W15 l14 l15 hv => ?_)⟩
      subst hv
      exact ret_plain rfl fun _ _ => rfl
    · have hb2 : ¬ (8192 : Int) < (d : Int) := hb2
      obtain rfl : z = 0 := by rw [hlaw, if_neg (by omega)]
      refine ⟨rfl, call_v rfl hlive (fun W14 v W15 l14 l15 hv => ?_)⟩
      subst hv
      exact ret_plain rfl fun _ _ => rfl
end Go.Proofs.YtkhgmmejgikgnaaDoor
