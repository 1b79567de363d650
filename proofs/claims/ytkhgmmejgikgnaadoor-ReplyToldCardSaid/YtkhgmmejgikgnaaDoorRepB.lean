/- Layer 35 (reply): numbers in decimals; what a status, an error is called. -/
import Derived.Test.YtkhgmmejgikgnaaDoorQueF
import Derived.Test.YtkhgmmejgikgnaaDoorCodeRR
import Derived.Lib.ItoaMem
import Derived.Lib.ItoaLen
import Derived.Lib.AppendIntMem
namespace Go.Proofs.YtkhgmmejgikgnaaDoor
open Go.RowKit

/-! ## Decimals -/
def preD (n : Nat) : List UInt8 := if n < 10 then [] else Lib.decDigits (n / 10)
theorem decD (n : Nat) : Lib.decDigits n = preD n ++ [UInt8.ofNat (48 + n % 10)] := by
  unfold preD
  rw [Lib.decDigits]
  split
  · rename_i h; rw [Nat.mod_eq_of_lt h]; rfl
  · rfl
def tenL : List UInt8 := [48, 49, 50, 51, 52, 53, 54, 55, 56, 57]
theorem ten_one (n : Nat) (h : n < 10) : (tenL.drop n).take (n + 1 - n) = [UInt8.ofNat (48 + n)] := by
  have : ∀ n : Nat, n < 10 → (tenL.drop n).take (n + 1 - n) = [UInt8.ofNat (48 + n)] := by decide
  exact this n h
theorem u64_in (n : Int) (h : 0 ≤ n ∧ n < 18446744073709551616) : IntKind.u64.wrap n = n := by rw [IntKind.wrap_u64]; omega
theorem dec_len (u : Nat) (h : u < 18446744073709551616) : (Lib.decDigits u).length ≤ 20 := by rw [Lib.decDigits_length]; exact Lib.nDigits_le20 u h
theorem tmod10 {z : Int} {n : Nat} (h : z = n) : z.tmod 10 = ((n % 10 : Nat) : Int) := by subst h; rfl
theorem tdiv10 {z : Int} {n : Nat} (h : z = n) : z.tdiv 10 = ((n / 10 : Nat) : Int) := by subst h; rfl
set_option maxHeartbeats 4000000 in
theorem dplain_x (u : Nat) (hu : u < 18446744073709551616) (W : PW) : CallsX Tryd.prog 115 ⟨[.int .u64 u]⟩ [] W fun v _ => v = strV (Lib.decDigits u) := by
  obtain ⟨z, hz⟩ : ∃ z : Int, z = u := ⟨_, rfl⟩
  rw [← hz]
  refine pureX hmix Tryd.func115 r115 (by kernel_rfl) [.int .u64 z] rfl ?_
  have step : ∀ (y : Int) (n : Nat), y = n → ∃ d : Nat, d < 10 ∧ n % 10 = d ∧ y.tmod 10 = d := fun y n h => ⟨n % 10, Nat.mod_lt _ (by decide), rfl, tmod10 h⟩
  obtain ⟨d, hd, hd1, hd2⟩ := step z u hz
  refine ⟨rfl, by decide, rfl, by decide, rfl, ((d + 1 : Nat) : Int), ?_, ?_⟩
  · rw [hd2, u64_in _ ⟨by omega, by omega⟩]; rfl
  generalize z.tmod 10 = x at hd2 ⊢
  subst hd2
  refine ⟨⟨by omega, by show ((d : Nat) : Int) ≤ ((d + 1 : Nat) : Int); omega, by show ((d + 1 : Nat) : Int) ≤ 10; omega⟩, ?_⟩
  have hst : u < 18446744073709551616 := hu
  refine ⟨Nat × List UInt8, fun t => [(0, .v (.int .u64 t.1)), (3, .v (strV t.2))], fun _ => [], fun _ => [], fun t _ => t.1 < 18446744073709551616 ∧ Lib.decDigits u = preD t.1 ++ t.2, fun t => t.1, (u, (tenL.drop ((d : Nat) : Int).toNat).take (((d + 1 : Nat) : Int).toNat - ((d : Nat) : Int).toNat)),
    all_sl ⟨by subst hz; rfl, rfl, trivial⟩, rfl, ole_refl _, ⟨hu, ?_⟩, loopOK (fun _ => ⟨⟨trivial, rfl⟩, ⟨trivial, rfl⟩, trivial⟩) (fun _ => rfl) (fun _ => rfl), ?_⟩
  · show Lib.decDigits u = preD u ++ (tenL.drop d).take (d + 1 - d)
    rw [ten_one d hd, decD u, hd1]
  rintro ⟨n, s⟩ W5 l5 ⟨hn, hs⟩ fr
  dsimp only at hn hs
  have hlen := dec_len u hu
  rw [hs, List.length_append] at hlen
  obtain ⟨y, hy⟩ : ∃ y : Int, y = n := ⟨_, rfl⟩
  refine ⟨rfl, br_split (fun hq => ?_) (fun hq => ?_)⟩
  · have hq : (10 : Int) ≤ (n : Int) := hq
    obtain ⟨m, hm⟩ : ∃ m, n / 10 = m := ⟨_, rfl⟩
    obtain ⟨d, hd, hd1, hd2⟩ := step m m rfl
    have e1 : preD n = preD m ++ [UInt8.ofNat (48 + d)] := by
      have : preD n = Lib.decDigits (n / 10) := by unfold preD; rw [if_neg (by omega)]
      rw [this, hm, decD m, hd1]
    refine ⟨rfl, by decide, (m : Int), (by show (m : Int) = IntKind.u64.wrap ((n : Int).tdiv 10); rw [tdiv10 rfl, hm, u64_in _ ⟨by omega, by omega⟩]), rfl, by decide, rfl, by decide, rfl, ((d + 1 : Nat) : Int), ?_, ?_⟩
    · show ((d + 1 : Nat) : Int) = IntKind.u64.wrap ((m : Int).tmod 10 + 1)
      rw [hd2, u64_in _ ⟨by omega, by omega⟩]; rfl
    generalize (m : Int).tmod 10 = x at hd2 ⊢
    subst hd2
    refine ⟨⟨by omega, by show ((d : Nat) : Int) ≤ ((d + 1 : Nat) : Int); omega, by show ((d + 1 : Nat) : Int) ≤ 10; omega⟩, ?_⟩
    have et : (tenL.drop ((d : Nat) : Int).toNat).take (((d + 1 : Nat) : Int).toNat - ((d : Nat) : Int).toNat) = [UInt8.ofNat (48 + d)] := ten_one d hd
    refine ⟨cat_q 100000 (by show ((tenL.drop ((d : Nat) : Int).toNat).take (((d + 1 : Nat) : Int).toNat - ((d : Nat) : Int).toNat)).length + s.length ≤ _; rw [et]; show 1 + s.length ≤ _; omega) (by decide), ?_⟩
    refine ⟨(m, (tenL.drop ((d : Nat) : Int).toNat).take (((d + 1 : Nat) : Int).toNat - ((d : Nat) : Int).toNat) ++ s), all_sl ⟨rfl, rfl, trivial⟩, rfl, ole_refl _, ⟨by dsimp only; omega, ?_⟩, by dsimp only; omega⟩
    dsimp only
    rw [et, hs, e1, List.append_assoc]
  · have hq : ¬ (10 : Int) ≤ (n : Int) := hq
    refine ret_plain rfl fun _ _ => ?_
    have : preD n = [] := by unfold preD; rw [if_pos (by omega)]
    rw [hs, this]; rfl
theorem itoa_len (n : Int) (h0 : -9223372036854775808 ≤ n) (h1 : n ≤ 9223372036854775807) : (Lib.itoa n).length ≤ 21 := by
  unfold Lib.itoa
  split
  · have := dec_len n.natAbs (by omega)
    rw [List.length_cons]; omega
  · have := dec_len n.toNat (by omega)
    omega
set_option maxHeartbeats 4000000 in
theorem number_x (n : Int) (h0 : -9223372036854775808 ≤ n) (h1 : n ≤ 9223372036854775807) (W : PW) : CallsX Tryd.prog 73 ⟨[.int .i64 n]⟩ [] W fun v _ => v = strV (Lib.itoa n) := by
  refine pureX hmix Tryd.func73 r73 (by kernel_rfl) [.int .i64 n] rfl ?_
  refine ⟨rfl, br_split (fun hq => ?_) (fun hq => ?_)⟩
  · have hq : n < 0 := hq
    refine ⟨((18446744073709551616 - n.natAbs : Nat) : Int), ?_, rfl, ((n.natAbs : Nat) : Int), ?_, ?_⟩
    · rw [IntKind.wrap_u64]; omega
    · rw [IntKind.wrap_u64]; omega
    have hl := dec_len n.natAbs (by omega)
    refine call_v rfl (fun W' _ => dplain_x n.natAbs (by omega) W') (fun W6 v W7 l6 l7 hv => ?_)
    obtain ⟨y, hy, rfl⟩ : ∃ y, Lib.decDigits n.natAbs = y ∧ v = strV y := ⟨_, rfl, hv⟩
    rw [hy] at hl
    refine ⟨cat_q 100000 (by show 1 + y.length ≤ _; omega) (by decide), ret_plain rfl fun _ _ => ?_⟩
    unfold Lib.itoa
    rw [if_pos hq, hy]; rfl
  · have hq : ¬ n < 0 := hq
    refine ⟨((n.toNat : Nat) : Int), ?_, ?_⟩
    · rw [IntKind.wrap_u64]; omega
    refine call_v rfl (fun W' _ => dplain_x n.toNat (by omega) W') (fun W6 v W7 l6 l7 hv => ?_)
    subst hv
    refine ret_plain rfl fun _ _ => ?_
    unfold Lib.itoa
    rw [if_neg hq]
/-- The library's table of powers of ten stands as it is. -/
def HT (W : PW) : Prop := W.A 5 ∧ Lib.TabIs Tryd.prog W.w "internal/strconv.uint64pow10" .u64 Lib.pow10Tab
theorem HT.mono {W W' : PW} (h : HT W) (l : W.Le W') : HT W' := by
  refine ⟨l.al _ h.1, ?_⟩
  have h2 := h.2
  have hg : Tryd.prog.globalNamed "internal/strconv.uint64pow10" = some 5 := by kernel_rfl
  unfold Lib.TabIs World.var? at *
  rw [hg] at h2 ⊢
  simp only [Option.bind_some] at h2 ⊢
  rw [l.bl _ h.1]
  exact h2
theorem ditoa_x (n : Int) (h0 : -9223372036854775808 ≤ n) (h1 : n ≤ 9223372036854775807) (W : PW) (h : HT W) : CallsX Tryd.prog 69 ⟨[.int .i64 n]⟩ [] W fun v _ => v = strV (Lib.itoa n) :=
  CallsX.of_at ⟨_, Tryd.func69, by kernel_rfl, by kernel_rfl⟩ ((Tryd.strconv_Itoa n h0 h1 W.w h.2).mono fun _ _ ⟨he, k, os, hw⟩ => ⟨he, hw ▸ Lib.below_grow _ _ (Nat.le_refl _) k os⟩)

end Go.Proofs.YtkhgmmejgikgnaaDoor
