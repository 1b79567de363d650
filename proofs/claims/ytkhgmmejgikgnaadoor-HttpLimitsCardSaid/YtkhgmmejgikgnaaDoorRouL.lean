/- Base64, plain: what is encoded and decoded again. No program here. -/
import Derived.Test.YtkhgmmejgikgnaaDoorQueL
import Derived.Lib.TrimByte
import Derived.Lib.Bytealg
namespace Go.Proofs.YtkhgmmejgikgnaaDoor
open Go.RowKit

def letL : List UInt8 := [65, 66, 67, 68, 69, 70, 71, 72, 73, 74, 75, 76, 77, 78, 79, 80, 81, 82, 83, 84, 85, 86, 87, 88, 89, 90, 97, 98, 99, 100, 101, 102, 103, 104, 105, 106, 107, 108, 109, 110, 111, 112, 113, 114, 115, 116, 117, 118, 119, 120, 121, 122, 48, 49, 50, 51, 52, 53, 54, 55, 56, 57, 45, 95]
def letC (n : Nat) : UInt8 := letL.getD n 0
def enc4 : List UInt8 → List UInt8
  | a :: b :: c :: r => [letC ((a.toNat * 65536 + b.toNat * 256 + c.toNat) / 262144), letC ((a.toNat * 65536 + b.toNat * 256 + c.toNat) / 4096 % 64), letC ((a.toNat * 65536 + b.toNat * 256 + c.toNat) / 64 % 64), letC ((a.toNat * 65536 + b.toNat * 256 + c.toNat) % 64)] ++ enc4 r
  | [a, b] => [letC ((a.toNat * 1024 + b.toNat * 4) / 4096), letC ((a.toNat * 1024 + b.toNat * 4) / 64 % 64), letC ((a.toNat * 1024 + b.toNat * 4) % 64)]
  | [a] => [letC (a.toNat * 16 / 64), letC (a.toNat * 16 % 64)]
  | [] => []
def two64 : Nat := 18446744073709551616
/-- What is held, how many of its bits count, what was made. -/
def decL : Nat → Nat → List UInt8 → List UInt8 → Option (List UInt8)
  | h, n, out, [] => if 6 ≤ n ∨ ¬ h % 2 ^ n = 0 then none else some out
  | h, n, out, c :: r =>
    if Lib.indexByte letL c < 0 then none
    else if 8 ≤ n + 6 then decL ((h * 64 + (Lib.indexByte letL c).toNat) % two64) (n + 6 - 8) (out ++ [UInt8.ofNat ((h * 64 + (Lib.indexByte letL c).toNat) % two64 / 2 ^ (n + 6 - 8) % 256)]) r
    else decL ((h * 64 + (Lib.indexByte letL c).toNat) % two64) (n + 6) out r
def encM (c : UInt8) : UInt8 := if c = 45 then 43 else if c = 95 then 47 else c
def decM (c : UInt8) : UInt8 := if c = 43 then 45 else if c = 47 then 95 else if c = 45 ∨ c = 95 then 61 else c

theorem let_idx {n : Nat} (h : n < 64) : Lib.indexByte letL (letC n) = n := by
  have : ∀ n : Nat, n < 64 → Lib.indexByte letL (letC n) = n := by decide +kernel
  exact this n h
theorem let_map {n : Nat} (h : n < 64) : decM (encM (letC n)) = letC n ∧ encM (letC n) ≠ 61 ∧ (encM (letC n)).toNat < 128 := by
  have : ∀ n : Nat, n < 64 → decM (encM (letC n)) = letC n ∧ encM (letC n) ≠ 61 ∧ (encM (letC n)).toNat < 128 := by decide +kernel
  exact this n h
theorem dec_more {h n : Nat} {out r : List UInt8} {x : Nat} (hx : x < 64) (hn : 8 ≤ n + 6) : decL h n out (letC x :: r) = decL ((h * 64 + x) % two64) (n + 6 - 8) (out ++ [UInt8.ofNat ((h * 64 + x) % two64 / 2 ^ (n + 6 - 8) % 256)]) r := by
  show (if Lib.indexByte letL (letC x) < 0 then none else _) = _
  rw [let_idx hx, if_neg (by omega), if_pos hn]; rfl
theorem dec_less {h n : Nat} {out r : List UInt8} {x : Nat} (hx : x < 64) (hn : ¬ 8 ≤ n + 6) : decL h n out (letC x :: r) = decL ((h * 64 + x) % two64) (n + 6) out r := by
  show (if Lib.indexByte letL (letC x) < 0 then none else _) = _
  rw [let_idx hx, if_neg (by omega), if_neg hn]; rfl
theorem byte_is {n : Nat} {a : UInt8} (h : n = a.toNat) : UInt8.ofNat n = a := by subst h; exact UInt8.ofNat_toNat
theorem dec_enc : ∀ (s : List UInt8) (h : Nat) (out : List UInt8), decL h 0 out (enc4 s) = some (out ++ s)
  | a :: b :: c :: r, h, out => by
    have ha := a.toNat_lt
    have hb := b.toNat_lt
    have hc := c.toNat_lt
    show decL h 0 out (letC _ :: letC _ :: letC _ :: letC _ :: enc4 r) = _
    obtain ⟨x, hx⟩ : ∃ x, a.toNat * 65536 + b.toNat * 256 + c.toNat = x := ⟨_, rfl⟩
    rw [hx]
    rw [dec_less (by omega) (by omega), dec_more (by omega) (by omega), dec_more (by omega) (by omega), dec_more (by omega) (by omega)]
    obtain ⟨h1, e1⟩ : ∃ y, (h * 64 + x / 262144) % two64 = y := ⟨_, rfl⟩
    rw [e1]
    obtain ⟨h2, e2⟩ : ∃ y, (h1 * 64 + x / 4096 % 64) % two64 = y := ⟨_, rfl⟩
    rw [e2]
    obtain ⟨h3, e3⟩ : ∃ y, (h2 * 64 + x / 64 % 64) % two64 = y := ⟨_, rfl⟩
    rw [e3]
    obtain ⟨h4, e4⟩ : ∃ y, (h3 * 64 + x % 64) % two64 = y := ⟨_, rfl⟩
    rw [e4]
    unfold two64 at e1 e2 e3 e4
    rw [byte_is (a := a) (by show h2 / 2 ^ 4 % 256 = _; omega), byte_is (a := b) (by show h3 / 2 ^ 2 % 256 = _; omega), byte_is (a := c) (by show h4 / 2 ^ 0 % 256 = _; omega)]
    rw [show 0 + 6 + 6 - 8 + 6 - 8 + 6 - 8 = 0 from rfl, dec_enc r]
    simp
  | [a, b], h, out => by
    have ha := a.toNat_lt
    have hb := b.toNat_lt
    show decL h 0 out (letC _ :: letC _ :: letC _ :: []) = _
    obtain ⟨x, hx⟩ : ∃ x, a.toNat * 1024 + b.toNat * 4 = x := ⟨_, rfl⟩
    rw [hx]
    rw [dec_less (by omega) (by omega), dec_more (by omega) (by omega), dec_more (by omega) (by omega)]
    obtain ⟨h1, e1⟩ : ∃ y, (h * 64 + x / 4096) % two64 = y := ⟨_, rfl⟩
    rw [e1]
    obtain ⟨h2, e2⟩ : ∃ y, (h1 * 64 + x / 64 % 64) % two64 = y := ⟨_, rfl⟩
    rw [e2]
    obtain ⟨h3, e3⟩ : ∃ y, (h2 * 64 + x % 64) % two64 = y := ⟨_, rfl⟩
    rw [e3]
    unfold two64 at e1 e2 e3
    rw [byte_is (a := a) (by show h2 / 2 ^ 4 % 256 = _; omega), byte_is (a := b) (by show h3 / 2 ^ 2 % 256 = _; omega)]
    show (if 6 ≤ 2 ∨ ¬ h3 % 2 ^ 2 = 0 then none else some (out ++ [a] ++ [b])) = _
    rw [if_neg (by omega)]
    simp
  | [a], h, out => by
    have ha := a.toNat_lt
    show decL h 0 out (letC _ :: letC _ :: []) = _
    obtain ⟨x, hx⟩ : ∃ x, a.toNat * 16 = x := ⟨_, rfl⟩
    rw [hx]
    rw [dec_less (by omega) (by omega), dec_more (by omega) (by omega)]
    obtain ⟨h1, e1⟩ : ∃ y, (h * 64 + x / 64) % two64 = y := ⟨_, rfl⟩
    rw [e1]
    obtain ⟨h2, e2⟩ : ∃ y, (h1 * 64 + x % 64) % two64 = y := ⟨_, rfl⟩
    rw [e2]
    unfold two64 at e1 e2
    rw [byte_is (a := a) (by show h2 / 2 ^ 4 % 256 = _; omega)]
    show (if 6 ≤ 4 ∨ ¬ h2 % 2 ^ 4 = 0 then none else some (out ++ [a])) = _
    rw [if_neg (by omega)]
  | [], h, out => by
    show (if 6 ≤ 0 ∨ ¬ h % 2 ^ 0 = 0 then none else some out) = _
    rw [if_neg (by omega), List.append_nil]

theorem enc4_all : ∀ (s : List UInt8) (c : UInt8), c ∈ enc4 s → ∃ n, n < 64 ∧ c = letC n
  | a :: b :: c :: r, z, h => by
    have ha := a.toNat_lt
    have hb := b.toNat_lt
    have hc := c.toNat_lt
    have h : z ∈ letC _ :: letC _ :: letC _ :: letC _ :: enc4 r := h
    simp only [List.mem_cons] at h
    rcases h with h | h | h | h | h
    · exact ⟨_, by omega, h⟩
    · exact ⟨_, by omega, h⟩
    · exact ⟨_, by omega, h⟩
    · exact ⟨_, by omega, h⟩
    · exact enc4_all r z h
  | [a, b], z, h => by
    have ha := a.toNat_lt
    have hb := b.toNat_lt
    have h : z ∈ letC _ :: letC _ :: letC _ :: [] := h
    simp only [List.mem_cons, List.not_mem_nil, or_false] at h
    rcases h with h | h | h
    · exact ⟨_, by omega, h⟩
    · exact ⟨_, by omega, h⟩
    · exact ⟨_, by omega, h⟩
  | [a], z, h => by
    have ha := a.toNat_lt
    have h : z ∈ letC _ :: letC _ :: [] := h
    simp only [List.mem_cons, List.not_mem_nil, or_false] at h
    rcases h with h | h
    · exact ⟨_, by omega, h⟩
    · exact ⟨_, by omega, h⟩
  | [], z, h => by cases h
theorem enc4_len : ∀ s : List UInt8, (enc4 s).length ≤ 2 * s.length ∧ ¬ (enc4 s).length % 4 = 1
  | a :: b :: c :: r => by
    have := enc4_len r
    have e : (enc4 (a :: b :: c :: r)).length = (enc4 r).length + 4 := by
      show (letC _ :: letC _ :: letC _ :: letC _ :: enc4 r).length = _
      simp only [List.length_cons]
    rw [e]; simp only [List.length_cons]; omega
  | [a, b] => by show 3 ≤ 2 * 2 ∧ ¬ 3 % 4 = 1; decide
  | [a] => by show 2 ≤ 2 * 1 ∧ ¬ 2 % 4 = 1; decide
  | [] => by show 0 ≤ 2 * 0 ∧ ¬ 0 % 4 = 1; decide
/-- What is put behind, that the length is one of fours. -/
def padN (n : Nat) : Nat := (4 - n % 4) % 4
def encS (s : List UInt8) : List UInt8 := (enc4 s).map encM ++ List.replicate (padN (enc4 s).length) 61
theorem pad_le (s : List UInt8) : padN (enc4 s).length ≤ 2 ∧ (encS s).length % 4 = 0 := by
  have := (enc4_len s).2
  unfold encS padN
  rw [List.length_append, List.length_map, List.length_replicate]
  omega
theorem encS_len (s : List UInt8) : (encS s).length ≤ 2 * s.length + 2 := by
  have := (enc4_len s).1
  have := (pad_le s).1
  unfold encS
  rw [List.length_append, List.length_map, List.length_replicate]
  omega
theorem unmap (s : List UInt8) : ((enc4 s).map encM).map decM = enc4 s := by
  rw [List.map_map]
  conv => rhs; rw [← List.map_id (enc4 s)]
  refine List.map_congr_left fun c hc => ?_
  obtain ⟨n, hn, rfl⟩ := enc4_all s c hc
  exact (let_map hn).1
theorem map_no (s : List UInt8) : ∀ c ∈ (enc4 s).map encM, c ≠ 61 ∧ c.toNat < 128 := fun c hc => by
  obtain ⟨d, hd, rfl⟩ := List.mem_map.1 hc
  obtain ⟨n, hn, rfl⟩ := enc4_all s d hd
  exact (let_map hn).2
theorem drop_rep (k : Nat) (l : List UInt8) (h : ∀ c ∈ l, c ≠ 61) : (List.replicate k (61 : UInt8) ++ l).dropWhile (· == 61) = l := by
  induction k with
  | zero =>
    cases l with
    | nil => rfl
    | cons c r =>
      have := h c (List.mem_cons_self ..)
      show List.dropWhile (· == 61) (c :: r) = _
      rw [List.dropWhile_cons, if_neg (by simpa using this)]
  | succ k ih => rw [List.replicate_succ, List.cons_append, List.dropWhile_cons, if_pos (by rfl)]; exact ih
theorem trim_enc (s : List UInt8) : Lib.trimRightB (encS s) 61 = (enc4 s).map encM := by
  unfold Lib.trimRightB encS
  rw [List.reverse_append, List.reverse_replicate, drop_rep _ _ fun c hc => (map_no s c (List.mem_reverse.1 hc)).1, List.reverse_reverse]
end Go.Proofs.YtkhgmmejgikgnaaDoor
