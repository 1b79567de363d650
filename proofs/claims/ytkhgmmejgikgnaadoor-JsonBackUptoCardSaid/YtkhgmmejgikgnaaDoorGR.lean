/- Texts of this proof, one behind the other: RouL RouA RouB RouC RouD RouE. No statement of the seat is proved here. -/
import Derived.Test.YtkhgmmejgikgnaaDoorGQ
import Derived.Lib.TrimByte
import Derived.Lib.Bytealg
import Derived.Test.YtkhgmmejgikgnaaDoorGC
import Derived.Test.YtkhgmmejgikgnaaDoorShelfR
import Derived.Lib.MapLaws
import Derived.Lib.TrimUEq

/- Base64, plain: what is encoded and decoded again. No program here. -/
namespace Go.Proofs.YtkhgmmejgikgnaaDoor
open Go.RowKit

def letL : List UInt8 := [65, 66, 67, 68, 69, 70, 71, 72, 73, 74, 75, 76, 77, 78, 79, 80, 81, 82, 83, 84, 85, 86, 87, 88, 89, 90, 97, 98, 99, 100, 101, 102, 103, 104, 105, 106, 107, 108, 109, 110, 111, 112, 113, 114, 115, 116, 117, 118, 119, 120, 121, 122, 48, 49, 50, 51, 52, 53, 54, 55, 56, 57, 45, 95]
def letC (n : Nat) : UInt8 := letL.getD n 0
def enc4 : List UInt8 → List UInt8
  | a :: b :: c :: r => [letC ((a.toNat * 65536 + b.toNat * 256 + c.toNat) / 262144), letC ((a.toNat * 65536 + b.toNat * 256 + c.toNat) / 4096 % 64), letC ((a.toNat * 65536 + b.toNat * 256 + c.toNat) / 64 % 64), letC ((a.toNat * 65536 + b.toNat * 256 + c.toNat) % 64)] ++ enc4 r
  | [a, b] => [letC ((a.toNat * 1024 + b.toNat * 4) / 4096), letC ((a.toNat * 1024 + b.toNat * 4) / 64 % 64), letC ((a.toNat * 1024 + b.toNat * 4) % 64)]
  | [a] => [letC (a.toNat * 16 / 64), letC (a.toNat * 16 % 64)]
  | [] => []
def two64 : Nat := 18446744073709551616
/-- What is held, how many of its bits count, what was made. -/
def decL : Nat → Nat → List UInt8 → List UInt8 → Option (List UInt8)
  | h, n, out, [] => if 6 ≤ n ∨ ¬ h % 2 ^ n = 0 then none else some out
  | h, n, out, c :: r =>
    if Lib.indexByte letL c < 0 then none
    else if 8 ≤ n + 6 then decL ((h * 64 + (Lib.indexByte letL c).toNat) % two64) (n + 6 - 8) (out ++ [UInt8.ofNat ((h * 64 + (Lib.indexByte letL c).toNat) % two64 / 2 ^ (n + 6 - 8) % 256)]) r
    else decL ((h * 64 + (Lib.indexByte letL c).toNat) % two64) (n + 6) out r
def encM (c : UInt8) : UInt8 := if c = 45 then 43 else if c = 95 then 47 else c
def decM (c : UInt8) : UInt8 := if c = 43 then 45 else if c = 47 then 95 else if c = 45 ∨ c = 95 then 61 else c

theorem let_idx {n : Nat} (h : n < 64) : Lib.indexByte letL (letC n) = n := by
  have : ∀ n : Nat, n < 64 → Lib.indexByte letL (letC n) = n := by decide +kernel
  exact this n h
theorem let_map {n : Nat} (h : n < 64) : decM (encM (letC n)) = letC n ∧ encM (letC n) ≠ 61 ∧ (encM (letC n)).toNat < 128 := by
  have : ∀ n : Nat, n < 64 → decM (encM (letC n)) = letC n ∧ encM (letC n) ≠ 61 ∧ (encM (letC n)).toNat < 128 := by decide +kernel
  exact this n h
theorem dec_more {h n : Nat} {out r : List UInt8} {x : Nat} (hx : x < 64) (hn : 8 ≤ n + 6) : decL h n out (letC x :: r) = decL ((h * 64 + x) % two64) (n + 6 - 8) (out ++ [UInt8.ofNat ((h * 64 + x) % two64 / 2 ^ (n + 6 - 8) % 256)]) r := by
  show (if Lib.indexByte letL (letC x) < 0 then none else _) = _
  rw [let_idx hx, if_neg (by omega), if_pos hn]; (first | done | rfl)
theorem dec_less {h n : Nat} {out r : List UInt8} {x : Nat} (hx : x < 64) (hn : ¬ 8 ≤ n + 6) : decL h n out (letC x :: r) = decL ((h * 64 + x) % two64) (n + 6) out r := by
  show (if Lib.indexByte letL (letC x) < 0 then none else _) = _
  rw [let_idx hx, if_neg (by omega), if_neg hn]; (first | done | rfl)
theorem byte_is {n : Nat} {a : UInt8} (h : n = a.toNat) : UInt8.ofNat n = a := by subst h; exact UInt8.ofNat_toNat
theorem dec_enc : ∀ (s : List UInt8) (h : Nat) (out : List UInt8), decL h 0 out (enc4 s) = some (out ++ s)
  | a :: b :: c :: r, h, out => by
    have ha := a.toNat_lt
    have hb := b.toNat_lt
    have hc := c.toNat_lt
    show decL h 0 out (letC _ :: letC _ :: letC _ :: letC _ :: enc4 r) = _
    obtain ⟨x, hx⟩ : ∃ x, a.toNat * 65536 + b.toNat * 256 + c.toNat = x := ⟨_, rfl⟩
    rw [hx]
    rw [dec_less (by omega) (by omega), dec_more (by omega) (by omega), dec_more (by omega) (by omega), dec_more (by omega) (by omega)]
    obtain ⟨h1, e1⟩ : ∃ y, (h * 64 + x / 262144) % two64 = y := ⟨_, rfl⟩
    rw [e1]
    obtain ⟨h2, e2⟩ : ∃ y, (h1 * 64 + x / 4096 % 64) % two64 = y := ⟨_, rfl⟩
    rw [e2]
    obtain ⟨h3, e3⟩ : ∃ y, (h2 * 64 + x / 64 % 64) % two64 = y := ⟨_, rfl⟩
    rw [e3]
    obtain ⟨h4, e4⟩ : ∃ y, (h3 * 64 + x % 64) % two64 = y := ⟨_, rfl⟩
    rw [e4]
    unfold two64 at e1 e2 e3 e4
    rw [byte_is (a := a) (by show h2 / 2 ^ 4 % 256 = _; omega), byte_is (a := b) (by show h3 / 2 ^ 2 % 256 = _; omega), byte_is (a := c) (by show h4 / 2 ^ 0 % 256 = _; omega)]
    rw [show 0 + 6 + 6 - 8 + 6 - 8 + 6 - 8 = 0 from rfl, dec_enc r]
    simp
  | [a, b], h, out => by
    have ha := a.toNat_lt
    have hb := b.toNat_lt
    show decL h 0 out (letC _ :: letC _ :: letC _ :: []) = _
    obtain ⟨x, hx⟩ : ∃ x, a.toNat * 1024 + b.toNat * 4 = x := ⟨_, rfl⟩
    rw [hx]
    rw [dec_less (by omega) (by omega), dec_more (by omega) (by omega), dec_more (by omega) (by omega)]
    obtain ⟨h1, e1⟩ : ∃ y, (h * 64 + x / 4096) % two64 = y := ⟨_, rfl⟩
    rw [e1]
    obtain ⟨h2, e2⟩ : ∃ y, (h1 * 64 + x / 64 % 64) % two64 = y := ⟨_, rfl⟩
    rw [e2]
    obtain ⟨h3, e3⟩ : ∃ y, (h2 * 64 + x % 64) % two64 = y := ⟨_, rfl⟩
    rw [e3]
    unfold two64 at e1 e2 e3
    rw [byte_is (a := a) (by show h2 / 2 ^ 4 % 256 = _; omega), byte_is (a := b) (by show h3 / 2 ^ 2 % 256 = _; omega)]
    show (if 6 ≤ 2 ∨ ¬ h3 % 2 ^ 2 = 0 then none else some (out ++ [a] ++ [b])) = _
    rw [if_neg (by omega)]
    simp
  | [a], h, out => by
    have ha := a.toNat_lt
    show decL h 0 out (letC _ :: letC _ :: []) = _
    obtain ⟨x, hx⟩ : ∃ x, a.toNat * 16 = x := ⟨_, rfl⟩
    rw [hx]
    rw [dec_less (by omega) (by omega), dec_more (by omega) (by omega)]
    obtain ⟨h1, e1⟩ : ∃ y, (h * 64 + x / 64) % two64 = y := ⟨_, rfl⟩
    rw [e1]
    obtain ⟨h2, e2⟩ : ∃ y, (h1 * 64 + x % 64) % two64 = y := ⟨_, rfl⟩
    rw [e2]
    unfold two64 at e1 e2
    rw [byte_is (a := a) (by show h2 / 2 ^ 4 % 256 = _; omega)]
    show (if 6 ≤ 4 ∨ ¬ h2 % 2 ^ 4 = 0 then none else some (out ++ [a])) = _
    rw [if_neg (by omega)]
  | [], h, out => by
    show (if 6 ≤ 0 ∨ ¬ h % 2 ^ 0 = 0 then none else some out) = _
    rw [if_neg (by omega), List.append_nil]

theorem enc4_all : ∀ (s : List UInt8) (c : UInt8), c ∈ enc4 s → ∃ n, n < 64 ∧ c = letC n
  | a :: b :: c :: r, z, h => by
    have ha := a.toNat_lt
    have hb := b.toNat_lt
    have hc := c.toNat_lt
    have h : z ∈ letC _ :: letC _ :: letC _ :: letC _ :: enc4 r := h
    simp only [List.mem_cons] at h
    rcases h with h | h | h | h | h
    · exact ⟨_, by omega, h⟩
    · exact ⟨_, by omega, h⟩
    · exact ⟨_, by omega, h⟩
    · exact ⟨_, by omega, h⟩
    · exact enc4_all r z h
  | [a, b], z, h => by
    have ha := a.toNat_lt
    have hb := b.toNat_lt
    have h : z ∈ letC _ :: letC _ :: letC _ :: [] := h
    simp only [List.mem_cons, List.not_mem_nil, or_false] at h
    rcases h with h | h | h
    · exact ⟨_, by omega, h⟩
    · exact ⟨_, by omega, h⟩
    · exact ⟨_, by omega, h⟩
  | [a], z, h => by
    have ha := a.toNat_lt
    have h : z ∈ letC _ :: letC _ :: [] := h
    simp only [List.mem_cons, List.not_mem_nil, or_false] at h
    rcases h with h | h
    · exact ⟨_, by omega, h⟩
    · exact ⟨_, by omega, h⟩
  | [], z, h => by cases h
theorem enc4_len : ∀ s : List UInt8, (enc4 s).length ≤ 2 * s.length ∧ ¬ (enc4 s).length % 4 = 1
  | a :: b :: c :: r => by
    have := enc4_len r
    have e : (enc4 (a :: b :: c :: r)).length = (enc4 r).length + 4 := by
      show (letC _ :: letC _ :: letC _ :: letC _ :: enc4 r).length = _
      simp only [List.length_cons]
    rw [e]; simp only [List.length_cons]; omega
  | [a, b] => by show 3 ≤ 2 * 2 ∧ ¬ 3 % 4 = 1; decide
  | [a] => by show 2 ≤ 2 * 1 ∧ ¬ 2 % 4 = 1; decide
  | [] => by show 0 ≤ 2 * 0 ∧ ¬ 0 % 4 = 1; decide
/-- What is put behind, that the length is one of fours. -/
def padN (n : Nat) : Nat := (4 - n % 4) % 4
def encS (s : List UInt8) : List UInt8 := (enc4 s).map encM ++ List.replicate (padN (enc4 s).length) 61
theorem pad_le (s : List UInt8) : padN (enc4 s).length ≤ 2 ∧ (encS s).length % 4 = 0 := by
  have := (enc4_len s).2
  unfold encS padN
  rw [List.length_append, List.length_map, List.length_replicate]
  omega
theorem encS_len (s : List UInt8) : (encS s).length ≤ 2 * s.length + 2 := by
  have := (enc4_len s).1
  have := (pad_le s).1
  unfold encS
  rw [List.length_append, List.length_map, List.length_replicate]
  omega
theorem unmap (s : List UInt8) : ((enc4 s).map encM).map decM = enc4 s := by
  rw [List.map_map]
  conv => rhs; rw [← List.map_id (enc4 s)]
  refine List.map_congr_left fun c hc => ?_
  obtain ⟨n, hn, rfl⟩ := enc4_all s c hc
  exact (let_map hn).1
theorem map_no (s : List UInt8) : ∀ c ∈ (enc4 s).map encM, c ≠ 61 ∧ c.toNat < 128 := fun c hc => by
  obtain ⟨d, hd, rfl⟩ := List.mem_map.1 hc
  obtain ⟨n, hn, rfl⟩ := enc4_all s d hd
  exact (let_map hn).2
theorem drop_rep (k : Nat) (l : List UInt8) (h : ∀ c ∈ l, c ≠ 61) : (List.replicate k (61 : UInt8) ++ l).dropWhile (· == 61) = l := by
  induction k with
  | zero =>
    cases l with
    | nil => rfl
    | cons c r =>
      have := h c (List.mem_cons_self ..)
      show List.dropWhile (· == 61) (c :: r) = _
      rw [List.dropWhile_cons, if_neg (by simpa using this)]
  | succ k ih => rw [List.replicate_succ, List.cons_append, List.dropWhile_cons, if_pos (by rfl)]; exact ih
theorem trim_enc (s : List UInt8) : Lib.trimRightB (encS s) 61 = (enc4 s).map encM := by
  unfold Lib.trimRightB encS
  rw [List.reverse_append, List.reverse_replicate, drop_rep _ _ fun c hc => (map_no s c (List.mem_reverse.1 hc)).1, List.reverse_reverse]
end Go.Proofs.YtkhgmmejgikgnaaDoor

/- The document's base64, walked: a text encoded. -/
namespace Go.Proofs.YtkhgmmejgikgnaaDoor
open Go.RowKit

def RB (W : PW) (v : Value) (l : List UInt8) : Prop := SlRead W v l.length (l.map byteV)
theorem RB.mono {W W' : PW} {v : Value} {l : List UInt8} (h : RB W v l) (k : W.Le W') : RB W' v l := SlRead.mono h k
theorem RB.form {W : PW} {v : Value} {l : List UInt8} (h : RB W v l) : ∃ A c, v = .slice A l.length c ∧ l.length ≤ c ∧ c ≤ maxLen := SlRead.form h
theorem RB.at {W W' : PW} {A : Option Addr} {n c : Nat} {l : List UInt8} (h : RB W (.slice A n c) l) (k : W.Le W') {j : Nat} {x : UInt8} (hx : l[j]? = some x) : ∃ a, A = some a ∧ Rd W' (a.add (j * 1)) (byteV x) := by
  have hn : n = l.length := by obtain ⟨_, _, e, _⟩ := RB.form h; simp only [Value.slice.injEq] at e; exact e.2.1
  subst hn
  have hj := (List.getElem?_eq_some_iff.1 hx).1
  obtain ⟨a, ha, _, hg⟩ := SlRead.get h k (j := (j : Int)) ⟨by omega, by omega⟩ 1
  exact ⟨a, ha, hg _ (by show (l.map byteV)[j * 1]? = _; rw [Nat.mul_one, List.getElem?_map, hx]; (first | done | rfl))⟩
theorem RB.cut {W : PW} {A : Option Addr} {n c : Nat} {l : List UInt8} (h : RB W (.slice A n c) l) {i m : Nat} (h1 : i ≤ m) (h2 : m ≤ l.length) : RB W (.slice (if c = i then A else A.map (·.add (i * 1))) (m - i) (c - i)) ((l.drop i).take (m - i)) := by
  have hn : n = l.length := by obtain ⟨_, _, e, _⟩ := RB.form h; simp only [Value.slice.injEq] at e; exact e.2.1
  subst hn
  have := SlRead.cut h 1 h1 h2
  unfold RB
  rw [List.length_take, List.length_drop, show min (m - i) (l.length - i) = m - i by omega]
  rw [Nat.mul_one, Nat.mul_one, ← List.map_drop, ← List.map_take] at this
  rw [Nat.mul_one]
  exact this

theorem let_one {n : Nat} (h : n < 64) : (letL.drop n).take (n + 1 - n) = [letC n] := by
  have : ∀ n : Nat, n < 64 → (letL.drop n).take (n + 1 - n) = [letC n] := by decide +kernel
  exact this n h
theorem letter_x (n : Nat) (h : n < 64) (W : PW) : CallsX Tryd.prog 116 ⟨[.int .i64 (n : Nat)]⟩ [] W fun v _ => v = strV [letC n] := by
  refine pureX hmix Tryd.func116 r116 (by kernel_rfl) [.int .i64 (n : Nat)] rfl ?_
  refine ⟨rfl, ((n + 1 : Nat) : Int), (by rw [i64_in _ ⟨by omega, by omega⟩]; omega), ⟨by omega, by omega, by show ((n + 1 : Nat) : Int) ≤ 64; omega⟩, ?_⟩
  exact ret_plain rfl fun _ _ => by show strV ((letL.drop n).take (n + 1 - n)) = _; rw [let_one h]

theorem quo_n (x n : Nat) (h : x ≤ 1000000000) : ((x / n : Nat) : Int) = IntKind.i64.wrap ((x : Int).tdiv (n : Int)) := by
  have e : (x : Int).tdiv (n : Int) = ((x / n : Nat) : Int) := rfl
  have h2 := Nat.div_le_self x n
  obtain ⟨y, hy⟩ : ∃ y, x / n = y := ⟨_, rfl⟩
  rw [e, hy, i64_in _ ⟨by omega, by omega⟩]
theorem n_wrap {z : Int} {x : Nat} (h : (x : Int) = z) (hx : x ≤ 1000000000) : (x : Int) = IntKind.i64.wrap z := by rw [← h, i64_in _ ⟨by omega, by omega⟩]
structure ESt where
  A : Option Addr
  c : Nat
  l : List UInt8
  s : List UInt8
set_option maxHeartbeats 4000000 in
theorem refenc4_x (l0 : List UInt8) (hl0 : l0.length ≤ 100000) (v : Value) (W : PW) (h : RB W v l0) : CallsX Tryd.prog 77 ⟨[v]⟩ [] W fun r _ => r = strV (enc4 l0) := by
  obtain ⟨A0, c0, rfl, _, _⟩ := h.form
  refine pureX hmix Tryd.func77 r77 (by kernel_rfl) [.slice A0 l0.length c0] rfl ?_
  refine ⟨ESt, fun t => [(0, .v (.slice t.A t.l.length t.c)), (3, .v (strV t.s))], fun _ => [], fun _ => [], fun t W => RB W (.slice t.A t.l.length t.c) t.l ∧ t.l.length ≤ t.c ∧ enc4 l0 = t.s ++ enc4 t.l, fun t => t.l.length, ⟨A0, c0, l0, []⟩,
    all_sl ⟨rfl, rfl, trivial⟩, rfl, ole_refl _, ⟨h, by assumption, rfl⟩, loopOK (fun _ => ⟨⟨trivial, rfl⟩, ⟨trivial, rfl⟩, trivial⟩) (fun _ => rfl) (fun _ => rfl), ?_⟩
  rintro ⟨A, c, l, s⟩ W5 l5 ⟨hr, hcap, hs⟩ fr
  dsimp only at hr hcap hs
  have hlen : s.length + (enc4 l).length ≤ 200000 := by
    have := (enc4_len l0).1
    rw [hs, List.length_append] at this; omega
  refine ⟨rfl, ?_⟩
  apply br_split
  · intro hq
    have hq : (3 : Int) ≤ (l.length : Nat) := hq
    match l, hq, hr, hcap, hs, hlen with
    | a :: b :: d :: r, hq, hr, hcap, hs, hlen =>
      have ha := a.toNat_lt
      have hb := b.toNat_lt
      have hd := d.toNat_lt
      obtain ⟨p, rfl, g0⟩ := RB.at hr (PW.Le.refl _) (j := 0) (x := a) rfl
      obtain ⟨p1, e1, g1⟩ := RB.at hr (PW.Le.refl _) (j := 1) (x := b) rfl
      obtain rfl : p = p1 := Option.some.inj e1
      obtain ⟨p2, e2, g2⟩ := RB.at hr (PW.Le.refl _) (j := 2) (x := d) rfl
      obtain rfl : p = p2 := Option.some.inj e2
      have hcut := RB.cut hr (i := 3) (m := (a :: b :: d :: r).length) (by simp) (Nat.le_refl _)
      have hs : enc4 l0 = s ++ (letC ((a.toNat * 65536 + b.toNat * 256 + d.toNat) / 262144) :: letC ((a.toNat * 65536 + b.toNat * 256 + d.toNat) / 4096 % 64) :: letC ((a.toNat * 65536 + b.toNat * 256 + d.toNat) / 64 % 64) :: letC ((a.toNat * 65536 + b.toNat * 256 + d.toNat) % 64) :: enc4 r) := hs
      have hlen : s.length + ((enc4 r).length + 4) ≤ 200000 := hlen
      obtain ⟨x, hx⟩ : ∃ x, a.toNat * 65536 + b.toNat * 256 + d.toNat = x := ⟨_, rfl⟩
      rw [hx] at hs
      refine ⟨⟨by decide, by show (0 : Int) < ((r.length + 3 : Nat) : Int); omega⟩, p, rfl, byteV a, g0.o, ((a.toNat : Nat) : Int), n_wrap rfl (by omega), rfl, ((a.toNat * 65536 : Nat) : Int), n_wrap (by omega) (by omega),
        ⟨by decide, by show (1 : Int) < ((r.length + 3 : Nat) : Int); omega⟩, p, rfl, byteV b, g1.o, ((b.toNat : Nat) : Int), n_wrap rfl (by omega), rfl, ((b.toNat * 256 : Nat) : Int), n_wrap (by omega) (by omega), rfl, ((a.toNat * 65536 + b.toNat * 256 : Nat) : Int), n_wrap (by omega) (by omega),
        ⟨by decide, by show (2 : Int) < ((r.length + 3 : Nat) : Int); omega⟩, p, rfl, byteV d, g2.o, ((d.toNat : Nat) : Int), n_wrap rfl (by omega), rfl, (x : Int), n_wrap (by omega) (by omega), ?_⟩
      refine ⟨rfl, by decide, ((x / 262144 : Nat) : Int), quo_n x 262144 (by omega), ?_⟩
      refine call_v rfl (fun W' _ => letter_x (x / 262144) (by omega) W') (fun W10 v W11 k10 k11 hv => ?_)
      subst hv
      refine ⟨cat_q 300000 (by show s.length + 1 ≤ _; omega) (by decide), rfl, by decide, ((x / 4096 : Nat) : Int), quo_n x 4096 (by omega), rfl, by decide, ?_⟩
      refine call_v rfl (fun W' _ => letter_x (x / 4096 % 64) (by omega) W') (fun W12 v W13 k12 k13 hv => ?_)
      subst hv
      refine ⟨cat_q 300000 (by show (s ++ [letC (x / 262144)]).length + 1 ≤ _; simp; omega) (by decide), rfl, by decide, ((x / 64 : Nat) : Int), quo_n x 64 (by omega), rfl, by decide, ?_⟩
      refine call_v rfl (fun W' _ => letter_x (x / 64 % 64) (by omega) W') (fun W14 v W15 k14 k15 hv => ?_)
      subst hv
      refine ⟨cat_q 300000 (by show (s ++ [letC (x / 262144)] ++ [letC (x / 4096 % 64)]).length + 1 ≤ _; simp; omega) (by decide), rfl, by decide, ?_⟩
      refine call_v rfl (fun W' _ => letter_x (x % 64) (by omega) W') (fun W16 v W17 k16 k17 hv => ?_)
      subst hv
      refine ⟨cat_q 300000 (by show (s ++ [letC (x / 262144)] ++ [letC (x / 4096 % 64)] ++ [letC (x / 64 % 64)]).length + 1 ≤ _; simp; omega) (by decide), ?_⟩
      refine ⟨⟨by decide, by show (3 : Int) ≤ ((r.length + 3 : Nat) : Int); omega, by show ((r.length + 3 : Nat) : Int) ≤ (c : Int); simp only [List.length_cons] at hcap; omega⟩, ?_⟩
      have ecut : (((a :: b :: d :: r).drop 3).take ((a :: b :: d :: r).length - 3)) = r := by
        show r.take (r.length + 3 - 3) = r
        rw [Nat.add_sub_cancel, List.take_length]
      rw [ecut] at hcut
      refine ⟨⟨if c = 3 then some p else (some p).map (·.add (3 * 1)), c - 3, r, s ++ [letC (x / 262144)] ++ [letC (x / 4096 % 64)] ++ [letC (x / 64 % 64)] ++ [letC (x % 64)]⟩, all_sl ⟨rfl, rfl, trivial⟩, rfl, ole_refl _, ⟨RB.mono hcut (k10.trans (k11.trans (k12.trans (k13.trans (k14.trans (k15.trans (k16.trans k17))))))), by dsimp only; simp only [List.length_cons] at hcap; omega, by dsimp only; rw [hs]; simp⟩, by dsimp only; simp only [List.length_cons]; omega⟩
  · intro hq
    have hq : ¬ (3 : Int) ≤ (l.length : Nat) := hq
    refine ⟨rfl, ?_⟩
    match l, hq, hr, hcap, hs, hlen with
    | [], _, _, _, hs, _ =>
      refine ⟨rfl, ?_⟩
      exact ret_plain rfl fun _ _ => by rw [hs]; show strV s = strV (s ++ []); rw [List.append_nil]
    | [a], hq, hr, hcap, hs, hlen =>
      have ha := a.toNat_lt
      obtain ⟨p, rfl, g0⟩ := RB.at hr (PW.Le.refl _) (j := 0) (x := a) rfl
      have hs : enc4 l0 = s ++ [letC (a.toNat * 16 / 64), letC (a.toNat * 16 % 64)] := hs
      have hlen : s.length + 2 ≤ 200000 := hlen
      obtain ⟨x, hx⟩ : ∃ x, a.toNat * 16 = x := ⟨_, rfl⟩
      rw [hx] at hs
      refine ⟨⟨by decide, by show (0 : Int) < ((1 : Nat) : Int); decide⟩, p, rfl, byteV a, g0.o, ((a.toNat : Nat) : Int), n_wrap rfl (by omega), rfl, (x : Int), n_wrap (by omega) (by omega), ?_⟩
      refine ⟨rfl, by decide, ((x / 64 : Nat) : Int), quo_n x 64 (by omega), ?_⟩
      refine call_v rfl (fun W' _ => letter_x (x / 64) (by omega) W') (fun W1 v W2 _ _ hv => ?_)
      subst hv
      refine ⟨cat_q 300000 (by show s.length + 1 ≤ _; omega) (by decide), rfl, by decide, ?_⟩
      refine call_v rfl (fun W' _ => letter_x (x % 64) (by omega) W') (fun W1 v W2 _ _ hv => ?_)
      subst hv
      refine ⟨cat_q 300000 (by show (s ++ [letC (x / 64)]).length + 1 ≤ _; simp; omega) (by decide), ?_⟩
      refine ⟨rfl, ?_⟩
      exact ret_plain rfl fun _ _ => by rw [hs]; show strV (s ++ [letC (x / 64)] ++ [letC (x % 64)]) = _; rw [List.append_assoc]; (first | done | rfl)
    | [a, b], hq, hr, hcap, hs, hlen =>
      have ha := a.toNat_lt
      have hb := b.toNat_lt
      obtain ⟨p, rfl, g0⟩ := RB.at hr (PW.Le.refl _) (j := 0) (x := a) rfl
      obtain ⟨p1, e1, g1⟩ := RB.at hr (PW.Le.refl _) (j := 1) (x := b) rfl
      obtain rfl : p = p1 := Option.some.inj e1
      have hs : enc4 l0 = s ++ [letC ((a.toNat * 1024 + b.toNat * 4) / 4096), letC ((a.toNat * 1024 + b.toNat * 4) / 64 % 64), letC ((a.toNat * 1024 + b.toNat * 4) % 64)] := hs
      have hlen : s.length + 3 ≤ 200000 := hlen
      obtain ⟨x, hx⟩ : ∃ x, a.toNat * 1024 + b.toNat * 4 = x := ⟨_, rfl⟩
      rw [hx] at hs
      refine ⟨rfl, ?_⟩
      refine ⟨⟨by decide, by show (0 : Int) < ((2 : Nat) : Int); decide⟩, p, rfl, byteV a, g0.o, ((a.toNat : Nat) : Int), n_wrap rfl (by omega), rfl, ((a.toNat * 1024 : Nat) : Int), n_wrap (by omega) (by omega),
        ⟨by decide, by show (1 : Int) < ((2 : Nat) : Int); decide⟩, p, rfl, byteV b, g1.o, ((b.toNat : Nat) : Int), n_wrap rfl (by omega), rfl, ((b.toNat * 4 : Nat) : Int), n_wrap (by omega) (by omega), rfl, (x : Int), n_wrap (by omega) (by omega), ?_⟩
      refine ⟨rfl, by decide, ((x / 4096 : Nat) : Int), quo_n x 4096 (by omega), ?_⟩
      refine call_v rfl (fun W' _ => letter_x (x / 4096) (by omega) W') (fun W1 v W2 _ _ hv => ?_)
      subst hv
      refine ⟨cat_q 300000 (by show s.length + 1 ≤ _; omega) (by decide), rfl, by decide, ((x / 64 : Nat) : Int), quo_n x 64 (by omega), rfl, by decide, ?_⟩
      refine call_v rfl (fun W' _ => letter_x (x / 64 % 64) (by omega) W') (fun W1 v W2 _ _ hv => ?_)
      subst hv
      refine ⟨cat_q 300000 (by show (s ++ [letC (x / 4096)]).length + 1 ≤ _; simp; omega) (by decide), rfl, by decide, ?_⟩
      refine call_v rfl (fun W' _ => letter_x (x % 64) (by omega) W') (fun W1 v W2 _ _ hv => ?_)
      subst hv
      refine ⟨cat_q 300000 (by show (s ++ [letC (x / 4096)] ++ [letC (x / 64 % 64)]).length + 1 ≤ _; simp; omega) (by decide), ?_⟩
      exact ret_plain rfl fun _ _ => by rw [hs]; show strV (s ++ [letC (x / 4096)] ++ [letC (x / 64 % 64)] ++ [letC (x % 64)]) = _; simp
    | a :: b :: d :: r, hq, _, _, _, _ => exact absurd (by show (3 : Int) ≤ ((r.length + 3 : Nat) : Int); omega) hq
end Go.Proofs.YtkhgmmejgikgnaaDoor

/- The document's base64 of a text, walked. -/
namespace Go.Proofs.YtkhgmmejgikgnaaDoor
open Go.RowKit

structure PdSt where
  i : Nat
  A : Option Addr
  c : Nat
  l : List UInt8
theorem rb_new {W : PW} {b c : Nat} {l : List UInt8} (h : Rds W ⟨b, 0, none⟩ (l.map byteV)) (h1 : l.length ≤ c) (h2 : c ≤ maxLen) : RB W (.slice (some ⟨b, 0, none⟩) l.length c) l :=
  ⟨_, _, rfl, h1, h2, fun _ => ⟨_, rfl, h⟩⟩
theorem map_step {t : List UInt8} {i : Nat} {x : UInt8} (h : t[i]? = some x) : (t.take (i + 1)).map encM = (t.take i).map encM ++ [encM x] := by rw [take_snoc h, List.map_append]; (first | done | rfl)
set_option maxHeartbeats 4000000 in
theorem refenc_x (s : List UInt8) (hs : s.length ≤ 100000) (W : PW) : CallsX Tryd.prog 41 ⟨[strV s]⟩ [] W fun r _ => r = strV (encS s) := by
  have hmax : (100000000 : Nat) ≤ maxLen := by decide
  refine pureNX hmix Tryd.func41 r41 (by kernel_rfl) [nilO 5 1] rfl [strV s] rfl ?_
  refine ⟨by show s.length ≤ _; omega, fun b c W1 l1 h1 h2 hr _ => ?_⟩
  refine call_v rfl (fun W' lw => refenc4_x s hs _ W' (RB.mono (rb_new hr h1 h2) lw)) (fun W2 v W3 l2 l3 hv => ?_)
  have hlen := (enc4_len s).1
  have hpad := pad_le s
  have hS : encS s = (enc4 s).map encM ++ List.replicate (padN (enc4 s).length) 61 := rfl
  obtain ⟨t, ht, rfl⟩ : ∃ t, enc4 s = t ∧ v = strV t := ⟨_, rfl, hv⟩
  rw [ht] at hlen hpad hS
  refine ⟨PdSt, fun t => [(5, .v (.int .i64 t.i)), (4, .v (.slice t.A t.l.length t.c))], fun _ => [], fun t => [bufO (.slice t.A t.l.length t.c) t.l], fun u _ => u.i ≤ t.length ∧ u.l = (t.take u.i).map encM, fun u => t.length - u.i, ⟨0, none, 0, []⟩,
    all_sl ⟨rfl, rfl, trivial⟩, rfl, ole_refl _, ⟨Nat.zero_le _, rfl⟩, loopOK (fun _ => ⟨⟨trivial, rfl⟩, ⟨trivial, rfl⟩, trivial⟩) (fun _ => rfl) (fun _ => rfl), ?_⟩
  rintro ⟨i, A, c, l⟩ W5 l5 ⟨hi, hl⟩ fr
  dsimp only at hi hl
  have hll : l.length = i := by rw [hl, List.length_map, List.length_take]; omega
  refine ⟨rfl, br_split (fun hq => ?_) (fun hq => ?_)⟩
  · have hq : (i : Int) < t.length := hq
    obtain ⟨x, hx⟩ := at_q (s := t) (i := i) (by omega)
    have hb : byteAt t (i : Int).toNat = x.toNat := byteAt_get hx
    have inc := (i64_in ((i : Int) + 1) ⟨by omega, by omega⟩).symm
    have hst := map_step hx
    rw [← hl] at hst
    refine ⟨⟨by omega, hq⟩, rfl, ?_⟩
    apply br_split
    · intro h45
      have h45 : byteAt t (i : Int).toNat = 45 := h45
      obtain rfl : x = 45 := byte_eq (by show x.toNat = 45; omega)
      have hst : (t.take (i + 1)).map encM = l ++ [43] := hst
      refine ⟨rfl, rfl, .inl fun g W6 l6 hr => ⟨0, _, [.int .u8 43], rfl, rfl, rfl, rfl, rfl, one_byte _, fun _ => ⟨_, rfl, hr.o⟩, by show l.length + 1 ≤ _; omega, by show (l.length + 1) * 1 ≤ _; omega, rfl, @fun A1 f1 _ => ?_⟩⟩
      have el : (l ++ [43]).length = l.length + 1 := by simp
      refine ⟨rfl, _, inc, ⟨i + 1, A1, f1, l ++ [43]⟩, all_sl ⟨rfl, ?_, trivial⟩, rfl, ole_eq ?_, ⟨by dsimp only; omega, hst.symm⟩, by dsimp only; omega⟩
      · dsimp only; rw [el]; (first | done | rfl)
      · dsimp only; unfold bufO; rw [el, ← map_snoc l 43 (n := 43) rfl]; (first | done | rfl)
    intro h45
    have h45 : ¬ byteAt t (i : Int).toNat = 45 := h45
    have n45 : ¬ x = 45 := fun e => h45 (by rw [hb, e]; (first | done | rfl))
    refine ⟨rfl, ?_⟩
    apply br_split
    · intro h95
      have h95 : byteAt t (i : Int).toNat = 95 := h95
      obtain rfl : x = 95 := byte_eq (by show x.toNat = 95; omega)
      have hst : (t.take (i + 1)).map encM = l ++ [47] := hst
      refine ⟨rfl, .inl fun g W6 l6 hr => ⟨0, _, [.int .u8 47], rfl, rfl, rfl, rfl, rfl, one_byte _, fun _ => ⟨_, rfl, hr.o⟩, by show l.length + 1 ≤ _; omega, by show (l.length + 1) * 1 ≤ _; omega, rfl, @fun A1 f1 _ => ?_⟩⟩
      have el : (l ++ [47]).length = l.length + 1 := by simp
      refine ⟨rfl, _, inc, ⟨i + 1, A1, f1, l ++ [47]⟩, all_sl ⟨rfl, ?_, trivial⟩, rfl, ole_eq ?_, ⟨by dsimp only; omega, hst.symm⟩, by dsimp only; omega⟩
      · dsimp only; rw [el]; (first | done | rfl)
      · dsimp only; unfold bufO; rw [el, ← map_snoc l 47 (n := 47) rfl]; (first | done | rfl)
    intro h95
    have h95 : ¬ byteAt t (i : Int).toNat = 95 := h95
    have n95 : ¬ x = 95 := fun e => h95 (by rw [hb, e]; (first | done | rfl))
    have hst : (t.take (i + 1)).map encM = l ++ [x] := by rw [hst]; unfold encM; rw [if_neg n45, if_neg n95]
    refine ⟨rfl, .inl fun g W6 l6 hr => ⟨0, _, [.int .u8 (byteAt t (i : Int).toNat)], rfl, rfl, rfl, rfl, rfl, one_byte _, fun _ => ⟨_, rfl, hr.o⟩, by show l.length + 1 ≤ _; omega, by show (l.length + 1) * 1 ≤ _; omega, rfl, @fun A1 f1 _ => ?_⟩⟩
    have el : (l ++ [x]).length = l.length + 1 := by simp
    refine ⟨rfl, _, inc, ⟨i + 1, A1, f1, l ++ [x]⟩, all_sl ⟨rfl, ?_, trivial⟩, rfl, ole_eq ?_, ⟨by dsimp only; omega, hst.symm⟩, by dsimp only; omega⟩
    · dsimp only; rw [el]; (first | done | rfl)
    · dsimp only; unfold bufO; rw [el, ← map_snoc l x hb]; (first | done | rfl)
  have hq : ¬ (i : Int) < t.length := hq
  obtain rfl : i = t.length := by omega
  rw [List.take_length] at hl
  refine ⟨PdSt, fun u => [(4, .v (.slice u.A u.l.length u.c))], fun _ => [], fun u => [bufO (.slice u.A u.l.length u.c) u.l], fun u _ => u.i ≤ padN t.length ∧ u.l = t.map encM ++ List.replicate u.i 61, fun u => padN t.length - u.i, ⟨0, A, c, l⟩,
    all_sl ⟨rfl, trivial⟩, rfl, ole_refl _, ⟨Nat.zero_le _, by rw [hl]; simp⟩, loopOK (fun _ => ⟨⟨trivial, rfl⟩, trivial⟩) (fun _ => rfl) (fun _ => rfl), ?_⟩
  rintro ⟨k, B, d, m⟩ W7 l7 ⟨hk, hm⟩ fr2
  dsimp only at hk hm
  have hml : m.length = t.length + k := by rw [hm, List.length_append, List.length_map, List.length_replicate]
  have hpd : (t.length + padN t.length) % 4 = 0 := by
    have := hpad.2
    rw [hS, List.length_append, List.length_map, List.length_replicate] at this; exact this
  refine ⟨rfl, by decide, rfl, br_nsplit (fun hq => ?_) (fun hq => ?_)⟩
  · have hq : ¬ ((m.length % 4 : Nat) : Int) = 0 := hq
    refine ⟨rfl, .inl fun g W6 l6 hr => ⟨0, _, [.int .u8 61], rfl, rfl, rfl, rfl, rfl, one_byte _, fun _ => ⟨_, rfl, hr.o⟩, by show m.length + 1 ≤ _; omega, by show (m.length + 1) * 1 ≤ _; omega, rfl, @fun A1 f1 _ => ?_⟩⟩
    have el : (m ++ [61]).length = m.length + 1 := by simp
    have hlt : k < padN t.length := by
      rcases Nat.lt_or_ge k (padN t.length) with h | h
      · exact h
      · obtain rfl : k = padN t.length := by omega
        omega
    refine ⟨⟨k + 1, A1, f1, m ++ [61]⟩, all_sl ⟨?_, trivial⟩, rfl, ole_eq ?_, ⟨by dsimp only; omega, by dsimp only; rw [hm, List.replicate_succ', List.append_assoc]⟩, by dsimp only; omega⟩
    · dsimp only; rw [el]; (first | done | rfl)
    · dsimp only; unfold bufO; rw [el, ← map_snoc m 61 (n := 61) rfl]; (first | done | rfl)
  · have hq : ((m.length % 4 : Nat) : Int) = 0 := hq
    obtain rfl : k = padN t.length := by
      have := hpad.1
      omega
    refine ⟨m, rfl, fun _ => .inr ⟨0, _, rfl, rfl, rfl⟩, ?_⟩
    exact ret_plain rfl fun _ _ => by rw [hS, hm]; (first | done | rfl)
end Go.Proofs.YtkhgmmejgikgnaaDoor

/- b64.Decode, walked. -/
namespace Go.Proofs.YtkhgmmejgikgnaaDoor
open Go.RowKit

theorem w64_in (n : Int) (h : 0 ≤ n ∧ n < 18446744073709551616) : IntKind.u64.wrap n = n := by rw [IntKind.wrap_u64]; omega
theorem u64_or {a x : Nat} (ha : a < 288230376151711744) (hx : x < 64) : Op.intBits .or .u64 ((a * 64 : Nat) : Int) (x : Int) = pure (.int .u64 ((a * 64 + x : Nat) : Int)) := by
  have e : (BitVec.ofInt 64 ((a * 64 : Nat) : Int) ||| BitVec.ofInt 64 (x : Int)).toNat = a * 64 + x := by
    rw [BitVec.toNat_or, BitVec.ofInt_natCast, BitVec.ofInt_natCast, BitVec.toNat_ofNat, BitVec.toNat_ofNat, Nat.mod_eq_of_lt (by omega), Nat.mod_eq_of_lt (by omega)]
    have := Nat.shiftLeft_add_eq_or_of_lt (i := 6) (b := x) hx a
    rw [Nat.shiftLeft_eq] at this
    exact this.symm
  show pure (Value.int .u64 (IntKind.u64.wrap (BitVec.ofInt 64 ((a * 64 : Nat) : Int) ||| BitVec.ofInt 64 (x : Int)).toNat)) = _
  rw [e, w64_in _ ⟨by omega, by omega⟩]
theorem u64_mask {h n : Nat} (hh : h < 18446744073709551616) (hn : n < 6) : Op.intBits .and .u64 (h : Int) ((2 ^ n - 1 : Nat) : Int) = pure (.int .u64 ((h % 2 ^ n : Nat) : Int)) := by
  have hp : 2 ^ n ≤ 2 ^ 6 := Nat.pow_le_pow_right (by decide) (by omega)
  have h0 : 0 < 2 ^ n := Nat.two_pow_pos n
  have e : (BitVec.ofInt 64 (h : Int) &&& BitVec.ofInt 64 ((2 ^ n - 1 : Nat) : Int)).toNat = h % 2 ^ n := by
    rw [BitVec.toNat_and, BitVec.ofInt_natCast, BitVec.ofInt_natCast, BitVec.toNat_ofNat, BitVec.toNat_ofNat, Nat.mod_eq_of_lt (by omega), Nat.mod_eq_of_lt (by omega)]
    exact Nat.and_two_pow_sub_one_eq_mod h n
  have := Nat.mod_lt h h0
  show pure (Value.int .u64 (IntKind.u64.wrap (BitVec.ofInt 64 (h : Int) &&& BitVec.ofInt 64 ((2 ^ n - 1 : Nat) : Int)).toNat)) = _
  rw [e, w64_in _ ⟨by omega, by omega⟩]
theorem u64_shl6 (h : Nat) (_ : h < 18446744073709551616) : ((h % 288230376151711744 * 64 : Nat) : Int) = shV .shl .u64 (h : Int) 6 := by
  show ((h % 288230376151711744 * 64 : Nat) : Int) = IntKind.u64.wrap ((h : Int) * 64)
  rw [IntKind.wrap_u64]; omega
theorem u64_one {n : Nat} (h : n < 6) : ((2 ^ n : Nat) : Int) = shV .shl .u64 1 (n : Int) := by
  have : ∀ n : Nat, n < 6 → ((2 ^ n : Nat) : Int) = shV .shl .u64 1 (n : Int) := by decide +kernel
  exact this n h
theorem u64_less {n : Nat} (h : n < 6) : ((2 ^ n - 1 : Nat) : Int) = IntKind.u64.wrap (((2 ^ n : Nat) : Int) - 1) := by
  have : ∀ n : Nat, n < 6 → ((2 ^ n - 1 : Nat) : Int) = IntKind.u64.wrap (((2 ^ n : Nat) : Int) - 1) := by decide +kernel
  exact this n h
theorem u64_shr (h n : Nat) (hn : n < 8) : ((h / 2 ^ n : Nat) : Int) = shV .shr .u64 (h : Int) (n : Int) := by
  show ((h / 2 ^ n : Nat) : Int) = (h : Int).fdiv (2 ^ (min ((n : Int)).toNat 64))
  rw [show min ((n : Int)).toNat 64 = n by rw [Int.toNat_natCast]; omega]
  rw [Int.fdiv_eq_ediv_of_nonneg _ (Int.le_of_lt (Int.pow_pos (by decide)))]
  simp
theorem u8_low (x : Nat) : ((x % 256 : Nat) : Int) = IntKind.u8.wrap (x : Int) := by rw [IntKind.wrap_u8]; omega
theorem idx_lt (c : UInt8) : Lib.indexByte letL c < 64 :=
  byte_all (p := fun c => Lib.indexByte letL c < 64) (by decide +kernel) c

structure DSt where
  i : Nat
  h : Nat
  n : Nat
  A : Option Addr
  c : Nat
  l : List UInt8
def BDec (W : PW) (v : Value) (r : Option (List UInt8)) : Prop :=
  match r with
  | some l => ∃ u, v = .tuple ⟨[u, .int .i64 0]⟩ ∧ RB W u l
  | none => v = .tuple ⟨[.slice none 0 0, .int .i64 4]⟩
theorem decL_miss {h n : Nat} {out r : List UInt8} {c : UInt8} (hx : Lib.indexByte letL c < 0) : decL h n out (c :: r) = none := by
  show (if Lib.indexByte letL c < 0 then none else _) = _
  rw [if_pos hx]
theorem decL_more {h n : Nat} {out r : List UInt8} {c : UInt8} {x : Nat} (hx : Lib.indexByte letL c = x) (hn : 8 ≤ n + 6) : decL h n out (c :: r) = decL ((h * 64 + x) % two64) (n + 6 - 8) (out ++ [UInt8.ofNat ((h * 64 + x) % two64 / 2 ^ (n + 6 - 8) % 256)]) r := by
  show (if Lib.indexByte letL c < 0 then none else _) = _
  rw [hx, if_neg (by omega), if_pos hn]; (first | done | rfl)
theorem decL_less {h n : Nat} {out r : List UInt8} {c : UInt8} {x : Nat} (hx : Lib.indexByte letL c = x) (hn : ¬ 8 ≤ n + 6) : decL h n out (c :: r) = decL ((h * 64 + x) % two64) (n + 6) out r := by
  show (if Lib.indexByte letL c < 0 then none else _) = _
  rw [hx, if_neg (by omega), if_neg hn]; (first | done | rfl)
set_option maxHeartbeats 8000000 in
theorem bdec_x (s : List UInt8) (hs : s.length ≤ 1000000) (W : PW) : CallsX Tryd.prog 119 ⟨[strV s]⟩ [] W fun v W' => BDec W' v (decL 0 0 [] s) := by
  have hmax : (100000000 : Nat) ≤ maxLen := by decide
  refine pureNX hmix Tryd.func119 r119 (by kernel_rfl) [nilO 5 1] rfl [strV s] rfl ?_
  have hidx : ∀ (n : Int) (W' : PW), CallsX Tryd.prog 110 ⟨[strV letL, .int .u8 n]⟩ [] W' fun v _ => v = .int .i64 (Lib.indexByte letL n.toNat.toUInt8) := fun n W' =>
    CallsX.of_same (v := .int .i64 (Lib.indexByte letL n.toNat.toUInt8)) ⟨_, Tryd.func110, by kernel_rfl, by kernel_rfl⟩ (Tryd.strings_IndexByte ⟨⟨letL⟩⟩ n W'.w)
  have ecast : ∀ n : Nat, ((n : Int)).toNat.toUInt8 = n.toUInt8 := fun n => by simp
  refine ⟨DSt, fun t => [(5, .v (.int .u64 t.h)), (6, .v (.int .i64 t.n)), (4, .v (.slice t.A t.l.length t.c)), (11, .v (.int .i64 t.i))], fun _ => [], fun t => [bufO (.slice t.A t.l.length t.c) t.l],
    fun t _ => t.i ≤ s.length ∧ t.l.length ≤ t.i ∧ t.h < two64 ∧ t.n < 8 ∧ decL 0 0 [] s = decL t.h t.n t.l (s.drop t.i), fun t => s.length - t.i, ⟨0, 0, 0, none, 0, []⟩,
    all_sl ⟨rfl, rfl, rfl, rfl, trivial⟩, rfl, ole_refl _, ⟨Nat.zero_le _, Nat.le_refl _, by decide, by decide, rfl⟩, loopOK (fun _ => ⟨⟨trivial, rfl⟩, ⟨trivial, rfl⟩, ⟨trivial, rfl⟩, ⟨trivial, rfl⟩, trivial⟩) (fun _ => rfl) (fun _ => rfl), ?_⟩
  rintro ⟨i, h, n, A, c, l⟩ W5 l5 ⟨hi, hll, hh, hn, hl⟩ fr
  dsimp only at hi hll hh hn hl
  unfold two64 at hh
  refine ⟨rfl, br_split (fun hq => ?_) (fun hq => ?_)⟩
  · have hq : (i : Int) < s.length := hq
    obtain ⟨x, hx⟩ := at_q (s := s) (i := i) (by omega)
    have hb : byteAt s (i : Int).toNat = x.toNat := byteAt_get hx
    have inc := (i64_in ((i : Int) + 1) ⟨by omega, by omega⟩).symm
    rw [drop_q hx] at hl
    refine ⟨⟨by omega, hq⟩, ?_⟩
    refine call_v rfl (fun W' _ => hidx _ W') (fun W1 v W2 _ _ hv => ?_)
    rw [hb, ecast, show x.toNat.toUInt8 = x by simp] at hv
    have hlt := idx_lt x
    obtain ⟨z, hz, rfl⟩ : ∃ z, Lib.indexByte letL x = z ∧ v = .int .i64 z := ⟨_, rfl, hv⟩
    rw [hz] at hlt
    refine ⟨rfl, ?_⟩
    apply br_split
    · intro hneg
      have hneg : z < 0 := hneg
      rw [decL_miss (by omega)] at hl
      exact ret_plain rfl fun _ _ => by rw [hl]; (first | done | rfl)
    intro hneg
    have hneg : ¬ z < 0 := hneg
    obtain ⟨y, rfl⟩ : ∃ y : Nat, z = y := ⟨z.toNat, by omega⟩
    have hmod : h % 288230376151711744 * 64 + y = (h * 64 + y) % two64 := by unfold two64; omega
    obtain ⟨g, hg⟩ : ∃ g, h % 288230376151711744 * 64 + y = g := ⟨_, rfl⟩
    have hgl : g < 18446744073709551616 := by omega
    have hor : Op.intBits .or .u64 ((h % 288230376151711744 * 64 : Nat) : Int) (y : Int) = pure (.int .u64 (g : Int)) := by rw [← hg]; exact u64_or (by omega) (by omega)
    refine ⟨by decide, _, u64_shl6 h hh, (y : Int), (w64_in _ ⟨by omega, by omega⟩).symm, rfl, (g : Int), hor, rfl, ((n + 6 : Nat) : Int), (by show ((n + 6 : Nat) : Int) = IntKind.i64.wrap ((n : Int) + 6); rw [i64_in _ ⟨by omega, by omega⟩]; omega), rfl, ?_⟩
    apply br_split
    · intro h8
      have h8 : (8 : Int) ≤ ((n + 6 : Nat) : Int) := h8
      rw [decL_more hz (by omega), ← hmod, hg] at hl
      obtain ⟨m, hm⟩ : ∃ m, n + 6 - 8 = m := ⟨_, rfl⟩
      rw [hm] at hl
      obtain ⟨b, hb2⟩ : ∃ b, g / 2 ^ m % 256 = b := ⟨_, rfl⟩
      have hbl : b < 256 := by omega
      rw [hb2] at hl
      refine ⟨rfl, (m : Int), (by show (m : Int) = IntKind.i64.wrap (((n + 6 : Nat) : Int) - 8); rw [i64_in _ ⟨by omega, by omega⟩]; omega), by omega, _, u64_shr g m (by omega), (b : Int), (by rw [← hb2]; exact u8_low _), rfl, .inl fun gg W6 l6 hr => ⟨0, _, [.int .u8 (b : Int)], rfl, rfl, rfl, rfl, rfl, one_byte _, fun _ => ⟨_, rfl, hr.o⟩, by show l.length + 1 ≤ _; omega, by show (l.length + 1) * 1 ≤ _; omega, rfl, @fun A1 f1 _ => ?_⟩⟩
      have el : (l ++ [UInt8.ofNat b]).length = l.length + 1 := by simp
      refine ⟨rfl, _, inc, ⟨i + 1, g, m, A1, f1, l ++ [UInt8.ofNat b]⟩, all_sl ⟨rfl, rfl, ?_, rfl, trivial⟩, rfl, ole_eq ?_, ⟨by dsimp only; omega, by dsimp only; omega, hgl, by dsimp only; omega, hl⟩, by dsimp only; omega⟩
      · dsimp only; rw [el]; (first | done | rfl)
      · dsimp only; unfold bufO; rw [el, ← map_snoc l _ (ofNat_byte hbl)]; (first | done | rfl)
    · intro h8
      have h8 : ¬ (8 : Int) ≤ ((n + 6 : Nat) : Int) := h8
      rw [decL_less hz (by omega), ← hmod, hg] at hl
      exact ⟨rfl, _, inc, ⟨i + 1, g, n + 6, A, c, l⟩, all_sl ⟨rfl, rfl, rfl, rfl, trivial⟩, rfl, ole_refl _, ⟨by dsimp only; omega, by dsimp only; omega, hgl, by dsimp only; omega, hl⟩, by dsimp only; omega⟩
  · have hq : ¬ (i : Int) < s.length := hq
    rw [List.drop_eq_nil_of_le (by omega)] at hl
    have hl : decL 0 0 [] s = if 6 ≤ n ∨ ¬ h % 2 ^ n = 0 then none else some l := hl
    refine ⟨rfl, ?_⟩
    apply br_split
    · intro h6
      have h6 : (6 : Int) ≤ (n : Int) := h6
      rw [if_pos (.inl (by omega))] at hl
      exact ret_plain rfl fun _ _ => by rw [hl]; (first | done | rfl)
    intro h6
    have h6 : ¬ (6 : Int) ≤ (n : Int) := h6
    obtain ⟨r, hr⟩ : ∃ r, h % 2 ^ n = r := ⟨_, rfl⟩
    have hand := u64_mask (h := h) (n := n) hh (by omega)
    rw [hr] at hand hl
    refine ⟨by omega, _, u64_one (by omega), rfl, _, u64_less (by omega), rfl, (r : Int), hand, rfl, br_nsplit (fun h0 => ?_) (fun h0 => ?_)⟩
    · have h0 : ¬ (r : Int) = 0 := h0
      rw [if_pos (.inr (by omega))] at hl
      exact ret_plain rfl fun _ _ => by rw [hl]; (first | done | rfl)
    · have h0 : (r : Int) = 0 := h0
      rw [if_neg (by omega)] at hl
      refine RetVC.freeze (fun _ hb => hb) (i := 0) rfl fun Wm lm hs0 => ?_
      refine ret_plain rfl fun W' lw => ?_
      rw [hl]
      exact ⟨_, rfl, SlRead.mono hs0 lw⟩
end Go.Proofs.YtkhgmmejgikgnaaDoor

/- route.decode, route.Basic, walked at a header that was made of a name and a secret. -/
namespace Go.Proofs.YtkhgmmejgikgnaaDoor
open Go.RowKit

/-! ## strings.Map with the mapping 'other', of ASCII -/
def otherF (x : Int) : Int := if x = 43 then 45 else if x = 47 then 95 else if x = 45 ∨ x = 95 then 61 else x
theorem otherRun (x : Int) (w : World) : Calls Tryd.prog 121 #[.int .i32 x] w fun e w' => e = .returned (.int .i32 (otherF x)) ∧ w' = w := by
  go_enter Tryd.func121, Tryd.ntmps121
  go_wp2
  all_goals (go_ret; refine ⟨?_, rfl⟩; unfold otherF)
  all_goals (simp_all)
theorem asc_one {l : List UInt8} {c : UInt8} (h : c.toNat < 128) : Lib.decodeL (c :: l) = (c.toNat, 1) := by
  rw [Lib.decodeL_N]
  unfold Lib.decodeN
  rw [if_pos (by simpa using h)]
  simp
theorem other_byte {c : UInt8} (h : c.toNat < 128) : 0 ≤ otherF c.toNat ∧ otherF c.toNat ≤ 127 ∧ Lib.encodeRune (otherF c.toNat) = [decM c] := by
  have : ∀ c : UInt8, c.toNat < 128 → 0 ≤ otherF c.toNat ∧ otherF c.toNat ≤ 127 ∧ Lib.encodeRune (otherF c.toNat) = [decM c] := fun c =>
    byte_all (p := fun c => c.toNat < 128 → 0 ≤ otherF c.toNat ∧ otherF c.toNat ≤ 127 ∧ Lib.encodeRune (otherF c.toNat) = [decM c]) (by decide +kernel) c
  exact this c h
theorem map_asc : ∀ l : List UInt8, (∀ c ∈ l, c.toNat < 128) → Lib.mapD otherF l = l.map decM
  | [], _ => rfl
  | c :: r, h => by
    have hc := h c (List.mem_cons_self ..)
    obtain ⟨h1, _, h2⟩ := other_byte hc
    rw [Lib.mapD_step otherF (c :: r) (by simp), asc_one hc]
    dsimp only
    rw [if_pos h1, h2, show (c :: r).drop 1 = r from rfl, map_asc r fun x hx => h x (List.mem_cons_of_mem _ hx)]
    (first | done | rfl)
/-- utf8's tables stand, and are never written again. -/
def HU (W : PW) : Prop := W.A 0 ∧ W.A 1 ∧ Lib.Utf8Tabs 0 1 W.w
theorem HU.mono {W W' : PW} (h : HU W) (l : W.Le W') : HU W' := by
  obtain ⟨h1, h2, h3, h4⟩ := h
  have e1 := l.bl _ h1
  have e2 := l.bl _ h2
  refine ⟨l.al _ h1, l.al _ h2, fun c hc => ?_, fun i hi => ⟨?_, ?_⟩⟩
  · rw [← h3 c hc]; unfold World.cell?; rw [e1]
  · rw [← (h4 i hi).1]; unfold World.cell?; rw [e2]
  · rw [← (h4 i hi).2]; unfold World.cell?; rw [e2]
theorem map_x (l : List UInt8) (ha : ∀ c ∈ l, c.toNat < 128) (hl : l.length ≤ 1000000) (W : PW) (hU : HU W) : CallsX Tryd.prog 120 ⟨[.func (.func 121) #[] #[], strV l]⟩ [] W fun v _ => v = strV (l.map decM) := by
  have hsz : (⟨⟨l⟩⟩ : ByteArray).size = l.length := rfl
  have hc := Tryd.strings_Map_runes 121 #[] (enters_of Tryd.func121 (by kernel_rfl) rfl) otherF ⟨⟨l⟩⟩ W.w (by rw [hsz]; omega)
    (fun W x _ _ => (otherRun x W).mono fun _ _ ⟨h1, h2⟩ => ⟨h1, 0, h2⟩) (fun x hx => by unfold otherF; repeat' split
                                                                                         all_goals omega) hU.2.2
  have : (⟨(Lib.mapD otherF (⟨⟨l⟩⟩ : ByteArray).data.toList).toArray⟩ : ByteArray) = ⟨⟨l.map decM⟩⟩ := by
    rw [← map_asc l ha]
  rw [this] at hc
  exact CallsX.of_at ⟨_, Tryd.func120, by kernel_rfl, by kernel_rfl⟩ hc
theorem trim_x (s : List UInt8) (hs : s.length ≤ 1000000) (W : PW) : CallsX Tryd.prog 118 ⟨[strV (encS s), strV [61]]⟩ [] W fun v _ => v = strV ((enc4 s).map encM) := by
  have hl := encS_len s
  have hsz : (⟨⟨encS s⟩⟩ : ByteArray).size = (encS s).length := rfl
  have hc := Tryd.strings_TrimRight_one ⟨⟨encS s⟩⟩ 61 (by decide) W.w (by rw [hsz]; omega)
  have : (⟨(Lib.trimRightB (⟨⟨encS s⟩⟩ : ByteArray).data.toList 61).toArray⟩ : ByteArray) = ⟨⟨(enc4 s).map encM⟩⟩ := by rw [← trim_enc s]
  rw [this] at hc
  exact CallsX.of_same ⟨_, Tryd.func118, by kernel_rfl, by kernel_rfl⟩ hc

theorem decode_x (u : List UInt8) (hu : u.length ≤ 100000) (W : PW) (hU : HU W) : CallsX Tryd.prog 79 ⟨[strV (encS u)]⟩ [] W fun v _ => v = .tuple ⟨[strV u, .bool true]⟩ := by
  refine pureX hmix Tryd.func79 r79 (by kernel_rfl) [strV (encS u)] rfl ?_
  refine call_v rfl (fun W' _ => trim_x u (by omega) W') (fun W1 v W2 l1 l2 hv => ?_)
  subst hv
  have hp := pad_le u
  have hel := encS_len u
  have h4l := (enc4_len u).1
  have hS : (encS u).length = ((enc4 u).map encM).length + padN (enc4 u).length := by unfold encS; rw [List.length_append, List.length_replicate]
  have hml : ((enc4 u).map encM).length = (enc4 u).length := List.length_map _
  have hum := unmap u
  have hno := map_no u
  have hde := dec_enc u 0 []
  obtain ⟨k, hk⟩ : ∃ k, padN (enc4 u).length = k := ⟨_, rfl⟩
  obtain ⟨m, hm⟩ : ∃ m, (enc4 u).map encM = m := ⟨_, rfl⟩
  obtain ⟨e, he⟩ : ∃ e, encS u = e := ⟨_, rfl⟩
  rw [hk] at hp hS
  rw [hm] at hS hml hum hno ⊢
  rw [he] at hp hS hel ⊢
  refine ⟨rfl, by decide, rfl, br_nsplit (fun hq => ?_) (fun _ => ?_)⟩
  · have hq : ¬ ((e.length % 4 : Nat) : Int) = 0 := hq
    omega
  refine ⟨rfl, (k : Int), (by show (k : Int) = IntKind.i64.wrap ((e.length : Int) - m.length); rw [i64_in _ ⟨by omega, by omega⟩]; omega), rfl, ?_⟩
  refine br_no (by show ¬ (2 : Int) < (k : Int); omega) ?_
  refine call_v rfl (fun W' lw => map_x m (fun c hc => (hno c hc).2) (by omega) W' (hU.mono (l1.trans (l2.trans lw)))) (fun W3 v W4 l3 l4 hv => ?_)
  subst hv
  rw [hum]
  refine call_v rfl (fun W' lw => bdec_x (enc4 u) (by omega) W') (fun W5 v W6 l5 l6 hv => ?_)
  rw [hde] at hv
  obtain ⟨x, rfl, A, c, rfl, h1, h2, h3⟩ := hv
  refine ⟨_, rfl, _, rfl, u, rfl, fun hn => .inl (let ⟨a, e, hr⟩ := h3 hn; ⟨a, e, hr.o⟩), ?_⟩
  exact ⟨rfl, ret_plain rfl fun _ _ => rfl⟩
end Go.Proofs.YtkhgmmejgikgnaaDoor

/- route.Basic and http.Header, walked; the values of a name in a form. -/
namespace Go.Proofs.YtkhgmmejgikgnaaDoor
open Go.RowKit

theorem cut_hit {c : UInt8} {a : List UInt8} (b : List UInt8) (h : c ∉ a) : Lib.cut (a ++ c :: b) [c] = (a, b, true) := by
  obtain ⟨h1, h2⟩ := cut_is c (a ++ c :: b)
  rw [cutW_app b h] at h1 h2
  have h3 : (Lib.cut (a ++ c :: b) [c]).2.2 = true := by
    unfold Lib.cut
    rw [Lib.index_one]
    rcases idx_cases c (a ++ c :: b) with ⟨_, hn⟩ | ⟨o, ho, _, _⟩
    · exact absurd (List.mem_append_right _ (List.mem_cons_self ..)) hn
    · rw [ho, if_pos (by omega)]
  exact Prod.ext h1 (Prod.ext h2 h3)
theorem cuthit_x {c : UInt8} (a b : List UInt8) (h : c ∉ a) (hl : a.length + b.length ≤ 1000000) (W : PW) (hM : HM W) : CallsX Tryd.prog 54 ⟨[strV (a ++ c :: b), strV [c]]⟩ [] W fun v _ => v = .tuple ⟨[strV a, strV b, .bool true]⟩ := by
  obtain ⟨m, _, hm⟩ := hM
  have hsz : (⟨⟨a ++ c :: b⟩⟩ : ByteArray).size = a.length + (b.length + 1) := by show (a ++ c :: b).length = _; simp
  refine CallsX.of_below ⟨_, Tryd.func54, by kernel_rfl, by kernel_rfl⟩ ((Tryd.strings_Cut ⟨⟨a ++ c :: b⟩⟩ ⟨⟨[c]⟩⟩ m W.w (by rw [hsz]; omega) hm).mono fun e w' ⟨he, n, hw⟩ => ⟨_, he, ?_, ?_⟩)
  · subst hw
    exact ⟨rfl, rfl, rfl, Nat.le_refl _, fun _ _ => rfl⟩
  · show Value.tuple #[.string ⟨(Lib.cut (a ++ c :: b) [c]).1.toArray⟩, .string ⟨(Lib.cut (a ++ c :: b) [c]).2.1.toArray⟩, .bool (Lib.cut (a ++ c :: b) [c]).2.2] = _
    rw [cut_hit b h]; (first | done | rfl)
def basicP : List UInt8 := [66, 97, 115, 105, 99, 32]
theorem pref_is (l : List UInt8) : Lib.hasPrefix (basicP ++ l) basicP = true := by
  unfold Lib.hasPrefix
  rw [List.isPrefixOf_iff_prefix]
  exact List.prefix_append ..
theorem prefix_x (l : List UInt8) (W : PW) : CallsX Tryd.prog 78 ⟨[strV (basicP ++ l), strV basicP]⟩ [] W fun v _ => v = .tuple ⟨[strV l, .bool true]⟩ := by
  have hc := Tryd.strings_CutPrefix ⟨⟨basicP ++ l⟩⟩ ⟨⟨basicP⟩⟩ W.w
  have e : Value.tuple #[.string ⟨(Lib.trimPrefix (⟨⟨basicP ++ l⟩⟩ : ByteArray).data.toList (⟨⟨basicP⟩⟩ : ByteArray).data.toList).toArray⟩, .bool (Lib.hasPrefix (⟨⟨basicP ++ l⟩⟩ : ByteArray).data.toList (⟨⟨basicP⟩⟩ : ByteArray).data.toList)] = .tuple ⟨[strV l, .bool true]⟩ := by
    show Value.tuple #[.string ⟨(Lib.trimPrefix (basicP ++ l) basicP).toArray⟩, .bool (Lib.hasPrefix (basicP ++ l) basicP)] = _
    unfold Lib.trimPrefix
    rw [pref_is, if_pos rfl, List.drop_left]; (first | done | rfl)
  rw [e] at hc
  exact CallsX.of_same ⟨_, Tryd.func78, by kernel_rfl, by kernel_rfl⟩ hc
theorem haspre_x (l : List UInt8) (W : PW) : CallsX Tryd.prog 82 ⟨[strV (basicP ++ l), strV basicP]⟩ [] W fun v _ => v = .bool true := by
  have hc := Tryd.strings_HasPrefix ⟨⟨basicP ++ l⟩⟩ ⟨⟨basicP⟩⟩ W.w
  have e : Lib.hasPrefix (⟨⟨basicP ++ l⟩⟩ : ByteArray).data.toList (⟨⟨basicP⟩⟩ : ByteArray).data.toList = true := pref_is l
  rw [e] at hc
  exact CallsX.of_same ⟨_, Tryd.func82, by kernel_rfl, by kernel_rfl⟩ hc
theorem esc_no58 : ∀ s : List UInt8, (58 : UInt8) ∉ escS s
  | [] => by simp [escS]
  | c :: r => by
    have h := esc_no58 r
    have hc : ∀ c : UInt8, (58 : UInt8) ∉ escC c := fun c => byte_all (p := fun c => (58 : UInt8) ∉ escC c) (by decide +kernel) c
    simp only [escS, List.mem_append, not_or]
    exact ⟨hc c, h⟩

def credS (name secret : List UInt8) : List UInt8 := basicP ++ encS (escS name ++ 58 :: escS secret)
theorem basic_x (name secret : List UInt8) (hn : name.length ≤ 1000) (hs : secret.length ≤ 1000) (W : PW) (hM : HM W) (hU : HU W) :
    CallsX Tryd.prog 42 ⟨[strV (credS name secret)]⟩ [] W fun v _ => v = .tuple ⟨[strV name, strV secret, .int .i64 0]⟩ := by
  refine pureX hmix Tryd.func42 r42 (by kernel_rfl) [strV (credS name secret)] rfl ?_
  have h1 := escS_len name
  have h2 := escS_len secret
  have u1 := un_esc false name
  have u2 := un_esc false secret
  have hno := esc_no58 name
  unfold credS
  obtain ⟨a, ha⟩ : ∃ a, escS name = a := ⟨_, rfl⟩
  obtain ⟨b, hb⟩ : ∃ b, escS secret = b := ⟨_, rfl⟩
  rw [ha, hb]
  rw [ha] at h1 u1 hno
  rw [hb] at h2 u2
  refine call_v rfl (fun W' _ => prefix_x (encS (a ++ 58 :: b)) W') (fun W1 v W2 l1 l2 hv => ?_)
  subst hv
  have lA := l1.trans l2
  refine ⟨_, rfl, _, rfl, ?_⟩
  refine call_v rfl (fun W' lw => decode_x (a ++ 58 :: b) (by simp; omega) W' (hU.mono (lA.trans lw))) (fun W3 v W4 l3 l4 hv => ?_)
  subst hv
  have lB := lA.trans (l3.trans l4)
  refine ⟨_, rfl, _, rfl, ?_⟩
  refine call_v rfl (fun W' lw => cuthit_x a b hno (by omega) W' (hM.mono (lB.trans lw))) (fun W5 v W6 l5 l6 hv => ?_)
  subst hv
  refine ⟨_, rfl, _, rfl, _, rfl, ?_⟩
  refine call_v rfl (fun W' _ => unescape_x a false (by omega) W') (fun W7 v W8 l7 l8 hv => ?_)
  rw [u1] at hv
  have hv : v = .tuple ⟨[strV name, .int .i64 0]⟩ := hv
  subst hv
  refine ⟨_, rfl, _, rfl, ?_⟩
  refine call_v rfl (fun W' _ => unescape_x b false (by omega) W') (fun W9 v W10 l9 l10 hv => ?_)
  rw [u2] at hv
  have hv : v = .tuple ⟨[strV secret, .int .i64 0]⟩ := hv
  subst hv
  refine ⟨_, rfl, _, rfl, rfl, rfl, ?_⟩
  exact ret_plain rfl fun _ _ => rfl

/-! ## Headers, forms -/
def hdrF (l : List PairS) (name : List UInt8) : List UInt8 × Nat := l.foldl (getF name) ([], 0)
def hdrS (l : List PairS) (name : List UInt8) : List UInt8 × Bool := if (hdrF l name).2 = 1 then ((hdrF l name).1, true) else ([], false)
def reqC (m p : List UInt8) (q h b : Value) : List Value := [strV m, strV p, q, h, b]
set_option maxHeartbeats 4000000 in
theorem count_x (l : List PairS) (name m p : List UInt8) (hl : l.length ≤ 1000000) (q u b : Value) (g : Nat) (W : PW) (hg : Rds W ⟨g, 0, none⟩ (reqC m p q u b)) (h : RP pairC W u l) :
    CallsX Tryd.prog 106 ⟨[.pointer (some ⟨g, 0, none⟩), strV name]⟩ [] W fun v _ => v = .int .i64 ((hdrF l name).2 : Nat) := by
  obtain ⟨a1, c1, rfl, _, _⟩ := h.form
  refine pureX hmix Tryd.func106 r106 (by kernel_rfl) [.pointer (some ⟨g, 0, none⟩), strV name] rfl ?_
  refine ⟨_, (hg 3 _ rfl).o, ?_⟩
  refine ⟨Nat × List UInt8 × Nat, fun t => [(13, .v (.int .i64 t.1)), (5, .v (.int .i64 t.2.2))], fun _ => [], fun _ => [], fun t _ => t.1 ≤ l.length ∧ t.2.2 ≤ t.1 ∧ (l.take t.1).foldl (getF name) ([], 0) = t.2, fun t => l.length - t.1, (0, [], 0),
    all_sl ⟨rfl, rfl, trivial⟩, rfl, ole_refl _, ⟨Nat.zero_le _, Nat.le_refl _, rfl⟩, loopOK (fun _ => ⟨⟨trivial, rfl⟩, ⟨trivial, rfl⟩, trivial⟩) (fun _ => rfl) (fun _ => rfl), ?_⟩
  rintro ⟨i, val, n⟩ W5 l5 ⟨hi, hn, hI⟩ fr
  dsimp only at hi hn hI
  refine ⟨rfl, br_split (fun hq => ?_) (fun hq => ?_)⟩
  · have hq : (i : Int) < l.length := hq
    obtain ⟨p1, rfl, x, hx, _, _, hr1⟩ := h.at (sz := 2) (fun _ => rfl) l5 (j := i) ⟨by omega, hq⟩
    have hst := foldl_step name (show l[i]? = some x from hx)
    rw [hI] at hst
    have inc := (i64_in ((i : Int) + 1) ⟨by omega, by omega⟩).symm
    refine ⟨⟨by omega, hq⟩, p1, rfl, pairC x, rfl, hr1.o, br_split (fun he => ?_) (fun he => ?_)⟩
    · have he : x.name = name := he
      unfold getF at hst
      rw [if_pos he] at hst
      exact ⟨rfl, ((n + 1 : Nat) : Int), (show ((n + 1 : Nat) : Int) = IntKind.i64.wrap ((n : Int) + 1) by rw [i64_in _ ⟨by omega, by omega⟩]; omega), rfl, _, inc, (i + 1, x.value, n + 1), all_sl ⟨rfl, rfl, trivial⟩, rfl, ole_refl _, ⟨by dsimp only; omega, by dsimp only; omega, hst⟩, by dsimp only; omega⟩
    · have he : ¬ x.name = name := he
      unfold getF at hst
      rw [if_neg he] at hst
      exact ⟨rfl, _, inc, (i + 1, val, n), all_sl ⟨rfl, rfl, trivial⟩, rfl, ole_refl _, ⟨by dsimp only; omega, by dsimp only; omega, hst⟩, by dsimp only; omega⟩
  · have hq : ¬ (i : Int) < l.length := hq
    rw [List.take_of_length_le (by omega)] at hI
    exact ret_plain rfl fun _ _ => by unfold hdrF; rw [hI]
set_option maxHeartbeats 4000000 in
theorem header_x (l : List PairS) (name m p : List UInt8) (hl : l.length ≤ 1000000) (q u b : Value) (W : PW) (h : RP pairC W u l) :
    CallsX Tryd.prog 81 ⟨[.agg ⟨reqC m p q u b⟩, strV name]⟩ [] W fun v _ => v = .tuple ⟨[strV (hdrS l name).1, .bool (hdrS l name).2]⟩ := by
  obtain ⟨a1, c1, rfl, _, _⟩ := h.form
  refine pureX hmix Tryd.func81 r81 (by kernel_rfl) [.agg ⟨reqC m p q (.slice a1 l.length c1) b⟩, strV name] rfl ?_
  refine ⟨Nat × List UInt8 × Nat, fun t => [(12, .v (.int .i64 t.1)), (6, .v (strV t.2.1))], fun _ => [(reqC m p q (.slice a1 l.length c1) b).map .v], fun _ => [], fun t _ => t.1 ≤ l.length ∧ t.2.2 ≤ t.1 ∧ (l.take t.1).foldl (getF name) ([], 0) = t.2, fun t => l.length - t.1, (0, [], 0),
    all_sl ⟨rfl, rfl, trivial⟩, rfl, ole_refl _, ⟨Nat.zero_le _, Nat.le_refl _, rfl⟩, loopOK (fun _ => ⟨⟨trivial, rfl⟩, ⟨trivial, rfl⟩, trivial⟩) (fun _ => rfl) (fun _ => rfl), ?_⟩
  rintro ⟨i, val, n⟩ W5 l5 ⟨hi, hn, hI⟩ fr
  dsimp only at hi hn hI
  refine ⟨rfl, br_split (fun hq => ?_) (fun hq => ?_)⟩
  · have hq : (i : Int) < l.length := hq
    obtain ⟨p1, rfl, x, hx, _, _, hr1⟩ := h.at (sz := 2) (fun _ => rfl) l5 (j := i) ⟨by omega, hq⟩
    have hst := foldl_step name (show l[i]? = some x from hx)
    rw [hI] at hst
    have inc := (i64_in ((i : Int) + 1) ⟨by omega, by omega⟩).symm
    refine ⟨⟨by omega, hq⟩, p1, rfl, pairC x, rfl, hr1.o, br_split (fun he => ?_) (fun he => ?_)⟩
    · have he : x.name = name := he
      unfold getF at hst
      rw [if_pos he] at hst
      exact ⟨rfl, _, inc, (i + 1, x.value, n + 1), all_sl ⟨rfl, rfl, trivial⟩, rfl, ole_refl _, ⟨by dsimp only; omega, by dsimp only; omega, hst⟩, by dsimp only; omega⟩
    · have he : ¬ x.name = name := he
      unfold getF at hst
      rw [if_neg he] at hst
      exact ⟨rfl, _, inc, (i + 1, val, n), all_sl ⟨rfl, rfl, trivial⟩, rfl, ole_refl _, ⟨by dsimp only; omega, by dsimp only; omega, hst⟩, by dsimp only; omega⟩
  · have hq : ¬ (i : Int) < l.length := hq
    rw [List.take_of_length_le (by omega)] at hI
    have hF : hdrF l name = (val, n) := hI
    refine call_ro (fun v => v = .int .i64 (n : Nat)) k106 (fun ρ w hst => ?_) (fun v W' _ hv => ?_)
    · have hv := hst.var_all (k := 0) (vs := reqC m p q (.slice a1 l.length c1) b) rfl rfl
      have := count_x l name m p hl q _ b (ρ 0) (PW.all w) hv ((h.mono l5).mono hst.le_all)
      rw [hF] at this
      exact this
    subst hv
    unfold hdrS
    rw [hF]
    refine ⟨rfl, br_nsplit (fun h1 => ?_) (fun h1 => ?_)⟩
    · have h1 : ¬ (n : Int) = 1 := h1
      exact ret_plain rfl fun _ _ => by rw [if_neg (by dsimp only; omega)]; (first | done | rfl)
    · have h1 : (n : Int) = 1 := h1
      exact ret_plain rfl fun _ _ => by rw [if_pos (by dsimp only; omega)]

def valF (name : List UInt8) (p : PairS) : Bool := decide (p.name = name)
def valS (l : List PairS) (name : List UInt8) : List (List UInt8) := (l.filter (valF name)).map (·.value)
theorem val_step {l : List PairS} {i : Nat} {x : PairS} (name : List UInt8) (h : l[i]? = some x) : valS (l.take (i + 1)) name = valS (l.take i) name ++ (if x.name = name then [x.value] else []) := by
  unfold valS
  rw [List.take_add_one, h, Option.toList_some, List.filter_append, List.map_append]
  congr 1
  unfold valF
  by_cases hx : x.name = name
  · simp [hx]
  · simp [hx]
theorem val_len (l : List PairS) (name : List UInt8) (i : Nat) : (valS (l.take i) name).length ≤ i := by
  unfold valS
  rw [List.length_map]
  exact Nat.le_trans (List.length_filter_le _ _) (by rw [List.length_take]; omega)
structure VSt where
  i : Nat
  A : Option Addr
  c : Nat
  out : List (List UInt8)
set_option maxHeartbeats 4000000 in
theorem values_x (l : List PairS) (name : List UInt8) (hl : l.length ≤ 1000000) (u : Value) (W : PW) (h : RP pairC W u l) : CallsX Tryd.prog 80 ⟨[u, strV name]⟩ [] W fun v W' => RP sC W' v (valS l name) := by
  have hmax : (100000000 : Nat) ≤ maxLen := by decide
  obtain ⟨a1, c1, rfl, _, _⟩ := h.form
  refine pureNX hmix Tryd.func80 r80 (by kernel_rfl) [nilO 9 1] rfl [.slice a1 l.length c1, strV name] rfl ?_
  refine ⟨VSt, fun t => [(10, .v (.int .i64 t.i)), (5, .v (.slice t.A t.out.length t.c))], fun _ => [], fun t => [strO (.slice t.A t.out.length t.c) t.out], fun t _ => t.i ≤ l.length ∧ t.out = valS (l.take t.i) name, fun t => l.length - t.i, ⟨0, none, 0, []⟩,
    all_sl ⟨rfl, rfl, trivial⟩, rfl, ole_refl _, ⟨Nat.zero_le _, rfl⟩, loopOK (fun _ => ⟨⟨trivial, rfl⟩, ⟨trivial, rfl⟩, trivial⟩) (fun _ => rfl) (fun _ => rfl), ?_⟩
  rintro ⟨i, A, c, out⟩ W5 l5 ⟨hi, hout⟩ fr
  dsimp only at hi hout
  have hol : out.length ≤ i := by rw [hout]; exact val_len l name i
  refine ⟨rfl, br_split (fun hq => ?_) (fun hq => ?_)⟩
  · have hq : (i : Int) < l.length := hq
    obtain ⟨p1, rfl, x, hx, _, _, hr1⟩ := h.at (sz := 2) (fun _ => rfl) l5 (j := i) ⟨by omega, hq⟩
    have hst := val_step name (show l[i]? = some x from hx)
    rw [← hout] at hst
    have inc := (i64_in ((i : Int) + 1) ⟨by omega, by omega⟩).symm
    refine ⟨⟨by omega, hq⟩, p1, rfl, pairC x, rfl, hr1.o, br_split (fun he => ?_) (fun he => ?_)⟩
    · have he : x.name = name := he
      rw [if_pos he] at hst
      refine ⟨rfl, .inl fun g W6 l6 hg => ⟨0, _, sC x.value, rfl, rfl, rfl, rfl, rfl, sC_one x.value, fun _ => ⟨_, rfl, hg.o⟩, by show out.length + 1 ≤ _; omega, by show (out.length + 1) * 16 ≤ _; omega, rfl, @fun A1 d1 _ => ?_⟩⟩
      have el : (out ++ [x.value]).length = out.length + 1 := by simp
      refine ⟨rfl, _, inc, ⟨i + 1, A1, d1, out ++ [x.value]⟩, all_sl ⟨rfl, ?_, trivial⟩, rfl, ole_eq ?_, ⟨by dsimp only; omega, hst.symm⟩, by dsimp only; omega⟩
      · dsimp only; rw [el]; (first | done | rfl)
      · dsimp only; unfold strO; rw [el, flat_snoc]; (first | done | rfl)
    · have he : ¬ x.name = name := he
      rw [if_neg he, List.append_nil] at hst
      exact ⟨rfl, _, inc, ⟨i + 1, A, c, out⟩, all_sl ⟨rfl, rfl, trivial⟩, rfl, ole_refl _, ⟨by dsimp only; omega, hst.symm⟩, by dsimp only; omega⟩
  · have hq : ¬ (i : Int) < l.length := hq
    rw [List.take_of_length_le (by omega)] at hout
    refine RetVC.freeze (fun _ hb => hb) (i := 0) rfl fun Wm lm hs0 => ?_
    refine ret_plain rfl fun W' lw => ?_
    rw [← hout]
    exact SlRead.mono hs0 lw
end Go.Proofs.YtkhgmmejgikgnaaDoor
