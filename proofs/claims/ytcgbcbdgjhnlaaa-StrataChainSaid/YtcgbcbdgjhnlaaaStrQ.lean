/- Layer 18 (strata), plain: the chains of relations that the law asks for, and their numbers. No program here. -/
import Derived.Test.YtcgbcbdgjhnlaaaStrP
namespace Go.Proofs.Ytcgbcbdgjhnlaaa
open Go.RowKit

def chB : List UInt8 := [110, 97, 109, 101, 115, 112, 97, 99, 101, 32, 120, 32, 123, 32, 114, 101, 108, 97, 116, 105, 111, 110, 32, 97, 58, 32, 117, 115, 101, 114]
def chH : List UInt8 := [32, 61, 32, 116, 104, 105, 115, 32, 124, 32]
def chN : List UInt8 := [97, 98, 99, 100, 101, 102, 103, 104, 105, 106, 107, 108, 109, 110, 111, 112]
def chR : List UInt8 := [32, 114, 101, 108, 97, 116, 105, 111, 110, 32]
def chM : List UInt8 := [58, 32, 117, 115, 101, 114, 32, 61, 32, 116, 104, 105, 115, 32, 45, 32]
def ltr (i : Nat) : List UInt8 := (chN.drop i).take 1
def chU (s : List UInt8) : Nat → List UInt8
  | 0 => s
  | i + 1 => chU s i ++ chR ++ ltr (i + 1) ++ chM ++ ltr i ++ [59]
def chS (m : Nat) (hang : Bool) : List UInt8 := (match hang with | true => chB ++ chH ++ ltr (m - 1) | false => chB) ++ [59]
def chT (m : Nat) (hang : Bool) : List UInt8 := chU (chS m hang) (m - 1) ++ [125]
def livT : List UInt8 := [110, 97, 109, 101, 115, 112, 97, 99, 101, 32, 100, 32, 123, 32, 114, 101, 108, 97, 116, 105, 111, 110, 32, 97, 58, 32, 117, 115, 101, 114, 59, 32, 114, 101, 108, 97, 116, 105, 111, 110, 32, 98, 58, 32, 117, 115, 101, 114, 32, 61, 32, 116, 104, 105, 115, 32, 45, 32, 97, 59, 32, 125]
def smR (r : RelS) : Bool := Nat.ble r.types.length 1000 && Nat.ble r.nodes.length 1000 && r.nodes.all fun n => Nat.ble n.rel.length 1000 && Nat.ble n.thn.length 1000 && (decide (n.kind < 4) || (decide (0 ≤ n.a) && decide (n.a < r.nodes.length) && decide (0 ≤ n.b) && decide (n.b < r.nodes.length)))
def smB (c : ConfS) : Bool := Nat.ble c.spaces.length 1000 && Nat.ble c.scopes.length 1000 && c.spaces.all fun s => Nat.ble s.rels.length 1000 && s.rels.all smR
def numE (x y : Num × Int) : Bool := decide (x.1 = y.1) && decide (x.2 = y.2)
def chOK (s : List UInt8) (r : Num × Int) : Bool := decide ((ruleP s).2 = 0) && smB (ruleP s).1 && numE (numbersS (ruleP s).1) r
theorem ltr_len (i : Nat) : (ltr i).length ≤ 1 := by unfold ltr; rw [List.length_take]; omega
theorem chU_len (s : List UInt8) : ∀ i : Nat, (chU s i).length ≤ s.length + 29 * i
  | 0 => Nat.le_refl _
  | i + 1 => by
    have h1 := chU_len s i
    have h2 := ltr_len (i + 1)
    have h3 := ltr_len i
    have h4 : chR.length = 10 := rfl
    have h5 : chM.length = 16 := rfl
    simp only [chU, List.length_append, h4, h5, List.length_cons, List.length_nil]
    omega
theorem chS_len (m : Nat) (hang : Bool) : (chS m hang).length ≤ 42 := by
  have h1 := ltr_len (m - 1)
  have h4 : chB.length = 30 := rfl
  have h5 : chH.length = 10 := rfl
  cases hang <;> simp only [chS, List.length_append, h4, h5, List.length_cons, List.length_nil] <;> omega
theorem liv_ok : chOK livT ([[0, 1]], 0) = true := by kernel_rfl
theorem ch_all : (List.range 15).all (fun k => chOK (chT (k + 2) true) ([], 15) && chOK (chT (k + 2) false) ([List.range (k + 2)], 0)) = true := by kernel_rfl
theorem ch_ok {m : Nat} (h2 : 2 ≤ m) (h16 : m ≤ 16) (hang : Bool) : chOK (chT m hang) (match hang with | true => ([], 15) | false => ([List.range m], 0)) = true := by
  have h := List.all_eq_true.1 ch_all (m - 2) (List.mem_range.2 (by omega))
  rw [Bool.and_eq_true, show m - 2 + 2 = m by omega] at h
  cases hang
  · exact h.2
  · exact h.1
theorem chOK_get {s : List UInt8} {r : Num × Int} (h : chOK s r = true) : (ruleP s).2 = 0 ∧ smB (ruleP s).1 = true ∧ numbersS (ruleP s).1 = r := by
  unfold chOK numE at h
  simp only [Bool.and_eq_true, decide_eq_true_eq] at h
  exact ⟨h.1.1, h.1.2, Prod.ext h.2.1 h.2.2⟩
end Go.Proofs.Ytcgbcbdgjhnlaaa
