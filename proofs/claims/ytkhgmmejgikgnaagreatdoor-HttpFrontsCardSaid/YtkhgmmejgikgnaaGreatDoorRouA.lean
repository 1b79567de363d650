/- The document's base64, walked: a text encoded. -/
import Derived.Test.YtkhgmmejgikgnaaGreatDoorQueE
import Derived.Test.YtkhgmmejgikgnaaGreatDoorCodeZ
import Derived.Test.YtkhgmmejgikgnaaGreatDoorRouL
namespace Go.Proofs.YtkhgmmejgikgnaaGreatDoor
open Go.RowKit

def RB (W : PW) (v : Value) (l : List UInt8) : Prop := SlRead W v l.length (l.map byteV)
theorem RB.mono {W W' : PW} {v : Value} {l : List UInt8} (h : RB W v l) (k : W.Le W') : RB W' v l := SlRead.mono h k
theorem RB.form {W : PW} {v : Value} {l : List UInt8} (h : RB W v l) : ∃ A c, v = .slice A l.length c ∧ l.length ≤ c ∧ c ≤ maxLen := SlRead.form h
theorem RB.at {W W' : PW} {A : Option Addr} {n c : Nat} {l : List UInt8} (h : RB W (.slice A n c) l) (k : W.Le W') {j : Nat} {x : UInt8} (hx : l[j]? = some x) : ∃ a, A = some a ∧ Rd W' (a.add (j * 1)) (byteV x) := by
  have hn : n = l.length := by obtain ⟨_, _, e, _⟩ := RB.form h; simp only [Value.slice.injEq] at e; exact e.2.1
  subst hn
  have hj := (List.getElem?_eq_some_iff.1 hx).1
  obtain ⟨a, ha, _, hg⟩ := SlRead.get h k (j := (j : Int)) ⟨by omega, by omega⟩ 1
  exact ⟨a, ha, hg _ (by show (l.map byteV)[j * 1]? = _; rw [Nat.mul_one, List.getElem?_map, hx]; rfl)⟩
theorem RB.cut {W : PW} {A : Option Addr} {n c : Nat} {l : List UInt8} (h : RB W (.slice A n c) l) {i m : Nat} (h1 : i ≤ m) (h2 : m ≤ l.length) : RB W (.slice (if c = i then A else A.map (·.add (i * 1))) (m - i) (c - i)) ((l.drop i).take (m - i)) := by
  have hn : n = l.length := by obtain ⟨_, _, e, _⟩ := RB.form h; simp only [Value.slice.injEq] at e; exact e.2.1
  subst hn
  have := SlRead.cut h 1 h1 h2
  unfold RB
  rw [List.length_take, List.length_drop, show min (m - i) (l.length - i) = m - i by omega]
  rw [Nat.mul_one, Nat.mul_one, ← List.map_drop, ← List.map_take] at this
  rw [Nat.mul_one]
  exact this

theorem let_one {n : Nat} (h : n < 64) : (letL.drop n).take (n + 1 - n) = [letC n] := by
  have : ∀ n : Nat, n < 64 → (letL.drop n).take (n + 1 - n) = [letC n] := by decide +kernel
  exact this n h
theorem quo_n (x n : Nat) (h : x ≤ 1000000000) : ((x / n : Nat) : Int) = IntKind.i64.wrap ((x : Int).tdiv (n : Int)) := by
  have e : (x : Int).tdiv (n : Int) = ((x / n : Nat) : Int) := rfl
  have h2 := Nat.div_le_self x n
  obtain ⟨y, hy⟩ : ∃ y, x / n = y := ⟨_, rfl⟩
  rw [e, hy, i64_in _ ⟨by omega, by omega⟩]
theorem n_wrap {z : Int} {x : Nat} (h : (x : Int) = z) (hx : x ≤ 1000000000) : (x : Int) = IntKind.i64.wrap z := by rw [← h, i64_in _ ⟨by omega, by omega⟩]
structure ESt where
  A : Option Addr
  c : Nat
  l : List UInt8
  s : List UInt8
end Go.Proofs.YtkhgmmejgikgnaaGreatDoor
