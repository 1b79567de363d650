/- Lengths to 8200 in digits: what Atoi and the document's tests say of them, reckoned by the kernel. No program here. -/
import Derived.Test.YtkhgmmejgikgnaaDoorHttL
import Derived.Lib.ItoaNum
namespace Go.Proofs.YtkhgmmejgikgnaaDoor
open Go.RowKit

/-! ## Digits -/
def digE (d : Nat) : List UInt8 :=
  if d < 10 then [UInt8.ofNat (48 + d)]
  else if d < 100 then [UInt8.ofNat (48 + d / 10), UInt8.ofNat (48 + d % 10)]
  else if d < 1000 then [UInt8.ofNat (48 + d / 10 / 10), UInt8.ofNat (48 + d / 10 % 10), UInt8.ofNat (48 + d % 10)]
  else [UInt8.ofNat (48 + d / 10 / 10 / 10), UInt8.ofNat (48 + d / 10 / 10 % 10), UInt8.ofNat (48 + d / 10 % 10), UInt8.ofNat (48 + d % 10)]
theorem dec_one {n : Nat} (h : n < 10) : Lib.decDigits n = [UInt8.ofNat (48 + n)] := by rw [Lib.decDigits, dif_pos h]
theorem dec_more' {n : Nat} (h : ¬ n < 10) : Lib.decDigits n = Lib.decDigits (n / 10) ++ [UInt8.ofNat (48 + n % 10)] := by rw [Lib.decDigits, dif_neg h]
theorem dec_digE {d : Nat} (h : d < 10000) : Lib.decDigits d = digE d := by
  unfold digE
  split
  · exact dec_one ‹_›
  · rw [dec_more' ‹_›]
    split
    · rw [dec_one (by omega)]; rfl
    · rw [dec_more' (by omega)]
      split
      · rw [dec_one (by omega)]; rfl
      · rw [dec_more' (by omega), dec_one (by omega)]; rfl
def digT (d : Nat) : Bool :=
  decide (atoiN (digE d) = some (d : Int)) && allB 9 digitB (digE d) && decide (Lib.trimS (32 :: digE d) [32, 9] = digE d) && allB 2048 valuedB (32 :: digE d) && decide ((digE d).length ≤ 4) && (digE d).all (fun c => decide (48 ≤ c.toNat))
theorem dig_kern : (List.range 8201).all digT = true := by decide +kernel
theorem dig_all {d : Nat} (h : d ≤ 8200) : digT d = true := List.all_eq_true.1 dig_kern d (List.mem_range.2 (by omega))

end Go.Proofs.YtkhgmmejgikgnaaDoor
