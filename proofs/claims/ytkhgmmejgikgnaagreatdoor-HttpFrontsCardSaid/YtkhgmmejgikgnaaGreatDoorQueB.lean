/- Layer 5 (query), walked: texts escaped and unescaped. -/
import Derived.Test.YtkhgmmejgikgnaaGreatDoorQueA
namespace Go.Proofs.YtkhgmmejgikgnaaGreatDoor
open Go.RowKit

/-! ## Small laws -/
structure BSt where
  i : Nat
  p : Value
  A : Option Addr
  c : Nat
  l : List UInt8
def bO (b : Nat) (t : BSt) : List Own := [bufO (.slice t.A t.l.length t.c) t.l, bldO b t.p (.slice t.A t.l.length t.c)]
def NilIff (A : Option Addr) (c : Nat) (l : List UInt8) : Prop := l = [] → A = none ∧ c = 0
theorem NilIff.snoc (A : Option Addr) (c : Nat) (l : List UInt8) (x : UInt8) : NilIff A c (l ++ [x]) := fun h => by simp at h
theorem bld_info : ∃ i z, Tryz.prog.info? 76 = some i ∧ i.zero = some z ∧ z.cells.toList = [.pointer none, .slice none 0 0] := by
  have h : ((Tryz.prog.info? 76).bind fun i => i.zero.map fun z => z.cells.toList) = some [.pointer none, .slice none 0 0] := by kernel_rfl
  obtain ⟨i, hi, h⟩ := Option.bind_eq_some_iff.1 h
  obtain ⟨z, hz, h⟩ := Option.map_eq_some_iff.1 h
  exact ⟨i, z, hi, hz, h⟩
theorem drop_q {s : List UInt8} {i : Nat} {c : UInt8} (h : s[i]? = some c) : s.drop i = c :: s.drop (i + 1) := by
  have h1 := (List.getElem?_eq_some_iff.1 h).1
  rw [List.drop_eq_getElem_cons h1, (List.getElem?_eq_some_iff.1 h).2]
theorem getD_q {s : List UInt8} {i : Nat} {c : UInt8} (h : s[i]? = some c) : (s[i]?).getD 0 = c := by rw [h]; rfl
theorem at_q {s : List UInt8} {i : Nat} (h : i < s.length) : ∃ c, s[i]? = some c := ⟨_, List.getElem?_eq_getElem h⟩
theorem shr4 (c : UInt8) : ((c.toNat / 16 : Nat) : Int) = shV .shr .u8 c.toNat 4 :=
  byte_all (p := fun c => ((c.toNat / 16 : Nat) : Int) = shV .shr .u8 c.toNat 4) (by decide +kernel) c
theorem and15 (c : UInt8) : Op.intBits .and .u8 c.toNat 15 = pure (.int .u8 ((c.toNat % 16 : Nat) : Int)) := by
  have h : IntKind.u8.wrap (BitVec.ofInt 8 c.toNat &&& BitVec.ofInt 8 15).toNat = ((c.toNat % 16 : Nat) : Int) :=
    byte_all (p := fun c => IntKind.u8.wrap (BitVec.ofInt 8 c.toNat &&& BitVec.ofInt 8 15).toNat = ((c.toNat % 16 : Nat) : Int)) (by decide +kernel) c
  show pure (Value.int .u8 (IntKind.u8.wrap (BitVec.ofInt 8 c.toNat &&& BitVec.ofInt 8 15).toNat)) = _
  rw [h]
theorem shl16 {n : Nat} (h : n < 16) : ((16 * n : Nat) : Int) = shV .shl .i64 n 4 := by
  have : ∀ n : Nat, n < 16 → ((16 * n : Nat) : Int) = shV .shl .i64 n 4 := by decide +kernel
  exact this n h
theorem or16 {a b : Nat} (ha : a < 16) (hb : b < 16) : Op.intBits .or .i64 ((16 * a : Nat) : Int) b = pure (.int .i64 ((16 * a + b : Nat) : Int)) := by
  have h : ∀ a : Nat, a < 16 → ∀ b : Nat, b < 16 → IntKind.i64.wrap (BitVec.ofInt 64 ((16 * a : Nat) : Int) ||| BitVec.ofInt 64 b).toNat = ((16 * a + b : Nat) : Int) := by decide +kernel
  show pure (Value.int .i64 (IntKind.i64.wrap (BitVec.ofInt 64 ((16 * a : Nat) : Int) ||| BitVec.ofInt 64 b).toNat)) = _
  rw [h a ha b hb]
theorem hex_at (n : Nat) : byteAt hexL n = (hexC n).toNat := by unfold byteAt hexC; rw [List.getD_eq_getElem?_getD]
theorem escS_app (a b : List UInt8) : escS (a ++ b) = escS a ++ escS b := by
  induction a with
  | nil => rfl
  | cons x a ih => simp only [List.cons_append, escS, ih, List.append_assoc]
theorem esc_take {s : List UInt8} {i : Nat} {c : UInt8} (h : s[i]? = some c) : escS (s.take (i + 1)) = escS (s.take i) ++ escC c := by
  rw [take_snoc h, escS_app]; simp [escS]
theorem escC_len (c : UInt8) : (escC c).length ≤ 3 := by unfold escC; split <;> simp
theorem escS_len : ∀ s : List UInt8, (escS s).length ≤ 3 * s.length
  | [] => Nat.zero_le _
  | c :: r => by
    have h1 := escC_len c
    have h2 := escS_len r
    simp only [escS, List.length_append, List.length_cons]; omega
theorem esc_len {s : List UInt8} (i : Nat) : (escS (s.take i)).length ≤ 3 * i := by
  have := escS_len (s.take i)
  rw [List.length_take] at this; omega

/-! ## Escaped -/
theorem cat_q {a b : List UInt8} (n : Nat) (h : a.length + b.length ≤ n) (hn : n ≤ 1000000000) : (a.length : Int) + b.length ≤ 9223372036854775807 := by omega
theorem hex_one {n : Nat} (h : n < 16) : (hexL.drop n).take 1 = [hexC n] := by
  have : ∀ n : Nat, n < 16 → (hexL.drop n).take 1 = [hexC n] := by decide
  exact this n h
end Go.Proofs.YtkhgmmejgikgnaaGreatDoor
