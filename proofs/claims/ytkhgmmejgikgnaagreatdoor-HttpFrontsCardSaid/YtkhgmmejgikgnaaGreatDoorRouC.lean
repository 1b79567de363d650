/- b64.Decode, walked. -/
import Derived.Test.YtkhgmmejgikgnaaGreatDoorRouB
namespace Go.Proofs.YtkhgmmejgikgnaaGreatDoor
open Go.RowKit

theorem w64_in (n : Int) (h : 0 ≤ n ∧ n < 18446744073709551616) : IntKind.u64.wrap n = n := by rw [IntKind.wrap_u64]; omega
theorem u64_or {a x : Nat} (ha : a < 288230376151711744) (hx : x < 64) : Op.intBits .or .u64 ((a * 64 : Nat) : Int) (x : Int) = pure (.int .u64 ((a * 64 + x : Nat) : Int)) := by
  have e : (BitVec.ofInt 64 ((a * 64 : Nat) : Int) ||| BitVec.ofInt 64 (x : Int)).toNat = a * 64 + x := by
    rw [BitVec.toNat_or, BitVec.ofInt_natCast, BitVec.ofInt_natCast, BitVec.toNat_ofNat, BitVec.toNat_ofNat, Nat.mod_eq_of_lt (by omega), Nat.mod_eq_of_lt (by omega)]
    have := Nat.shiftLeft_add_eq_or_of_lt (i := 6) (b := x) hx a
    rw [Nat.shiftLeft_eq] at this
    exact this.symm
  show pure (Value.int .u64 (IntKind.u64.wrap (BitVec.ofInt 64 ((a * 64 : Nat) : Int) ||| BitVec.ofInt 64 (x : Int)).toNat)) = _
  rw [e, w64_in _ ⟨by omega, by omega⟩]
theorem u64_mask {h n : Nat} (hh : h < 18446744073709551616) (hn : n < 6) : Op.intBits .and .u64 (h : Int) ((2 ^ n - 1 : Nat) : Int) = pure (.int .u64 ((h % 2 ^ n : Nat) : Int)) := by
  have hp : 2 ^ n ≤ 2 ^ 6 := Nat.pow_le_pow_right (by decide) (by omega)
  have h0 : 0 < 2 ^ n := Nat.two_pow_pos n
  have e : (BitVec.ofInt 64 (h : Int) &&& BitVec.ofInt 64 ((2 ^ n - 1 : Nat) : Int)).toNat = h % 2 ^ n := by
    rw [BitVec.toNat_and, BitVec.ofInt_natCast, BitVec.ofInt_natCast, BitVec.toNat_ofNat, BitVec.toNat_ofNat, Nat.mod_eq_of_lt (by omega), Nat.mod_eq_of_lt (by omega)]
    exact Nat.and_two_pow_sub_one_eq_mod h n
  have := Nat.mod_lt h h0
  show pure (Value.int .u64 (IntKind.u64.wrap (BitVec.ofInt 64 (h : Int) &&& BitVec.ofInt 64 ((2 ^ n - 1 : Nat) : Int)).toNat)) = _
  rw [e, w64_in _ ⟨by omega, by omega⟩]
theorem u64_shl6 (h : Nat) (_ : h < 18446744073709551616) : ((h % 288230376151711744 * 64 : Nat) : Int) = shV .shl .u64 (h : Int) 6 := by
  show ((h % 288230376151711744 * 64 : Nat) : Int) = IntKind.u64.wrap ((h : Int) * 64)
  rw [IntKind.wrap_u64]; omega
theorem u64_one {n : Nat} (h : n < 6) : ((2 ^ n : Nat) : Int) = shV .shl .u64 1 (n : Int) := by
  have : ∀ n : Nat, n < 6 → ((2 ^ n : Nat) : Int) = shV .shl .u64 1 (n : Int) := by decide +kernel
  exact this n h
theorem u64_less {n : Nat} (h : n < 6) : ((2 ^ n - 1 : Nat) : Int) = IntKind.u64.wrap (((2 ^ n : Nat) : Int) - 1) := by
  have : ∀ n : Nat, n < 6 → ((2 ^ n - 1 : Nat) : Int) = IntKind.u64.wrap (((2 ^ n : Nat) : Int) - 1) := by decide +kernel
  exact this n h
theorem u64_shr (h n : Nat) (hn : n < 8) : ((h / 2 ^ n : Nat) : Int) = shV .shr .u64 (h : Int) (n : Int) := by
  show ((h / 2 ^ n : Nat) : Int) = (h : Int).fdiv (2 ^ (min ((n : Int)).toNat 64))
  rw [show min ((n : Int)).toNat 64 = n by rw [Int.toNat_natCast]; omega]
  rw [Int.fdiv_eq_ediv_of_nonneg _ (Int.le_of_lt (Int.pow_pos (by decide)))]
  simp
theorem u8_low (x : Nat) : ((x % 256 : Nat) : Int) = IntKind.u8.wrap (x : Int) := by rw [IntKind.wrap_u8]; omega
theorem idx_lt (c : UInt8) : Lib.indexByte letL c < 64 :=
  byte_all (p := fun c => Lib.indexByte letL c < 64) (by decide +kernel) c

structure DSt where
  i : Nat
  h : Nat
  n : Nat
  A : Option Addr
  c : Nat
  l : List UInt8
def BDec (W : PW) (v : Value) (r : Option (List UInt8)) : Prop :=
  match r with
  | some l => ∃ u, v = .tuple ⟨[u, .int .i64 0]⟩ ∧ RB W u l
  | none => v = .tuple ⟨[.slice none 0 0, .int .i64 4]⟩
theorem decL_miss {h n : Nat} {out r : List UInt8} {c : UInt8} (hx : Lib.indexByte letL c < 0) : decL h n out (c :: r) = none := by
  show (if Lib.indexByte letL c < 0 then none else _) = _
  rw [if_pos hx]
theorem decL_more {h n : Nat} {out r : List UInt8} {c : UInt8} {x : Nat} (hx : Lib.indexByte letL c = x) (hn : 8 ≤ n + 6) : decL h n out (c :: r) = decL ((h * 64 + x) % two64) (n + 6 - 8) (out ++ [UInt8.ofNat ((h * 64 + x) % two64 / 2 ^ (n + 6 - 8) % 256)]) r := by
  show (if Lib.indexByte letL c < 0 then none else _) = _
  rw [hx, if_neg (by omega), if_pos hn]; rfl
theorem decL_less {h n : Nat} {out r : List UInt8} {c : UInt8} {x : Nat} (hx : Lib.indexByte letL c = x) (hn : ¬ 8 ≤ n + 6) : decL h n out (c :: r) = decL ((h * 64 + x) % two64) (n + 6) out r := by
  show (if Lib.indexByte letL c < 0 then none else _) = _
  rw [hx, if_neg (by omega), if_neg hn]; rfl
end Go.Proofs.YtkhgmmejgikgnaaGreatDoor
