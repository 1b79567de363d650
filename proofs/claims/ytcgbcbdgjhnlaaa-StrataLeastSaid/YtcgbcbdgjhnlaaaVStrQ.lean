/- Layer 18 (strata), plain: the chains of relations that the law asks for, and their numbers. No program here. -/
import Derived.Test.YtcgbcbdgjhnlaaaVStrP
namespace Go.Proofs.Ytcgbcbdgjhnlaaa
open Go.RowKit

def livT : List UInt8 := [110, 97, 109, 101, 115, 112, 97, 99, 101, 32, 100, 32, 123, 32, 114, 101, 108, 97, 116, 105, 111, 110, 32, 97, 58, 32, 117, 115, 101, 114, 59, 32, 114, 101, 108, 97, 116, 105, 111, 110, 32, 98, 58, 32, 117, 115, 101, 114, 32, 61, 32, 116, 104, 105, 115, 32, 45, 32, 97, 59, 32, 125]
def smR (r : RelS) : Bool := Nat.ble r.types.length 1000 && Nat.ble r.nodes.length 1000 && r.nodes.all fun n => Nat.ble n.rel.length 1000 && Nat.ble n.thn.length 1000 && (decide (n.kind < 4) || (decide (0 ≤ n.a) && decide (n.a < r.nodes.length) && decide (0 ≤ n.b) && decide (n.b < r.nodes.length)))
def smB (c : ConfS) : Bool := Nat.ble c.spaces.length 1000 && Nat.ble c.scopes.length 1000 && c.spaces.all fun s => Nat.ble s.rels.length 1000 && s.rels.all smR
def numE (x y : Num × Int) : Bool := decide (x.1 = y.1) && decide (x.2 = y.2)
def chOK (s : List UInt8) (r : Num × Int) : Bool := decide ((ruleP s).2 = 0) && smB (ruleP s).1 && numE (numbersS (ruleP s).1) r
theorem liv_ok : chOK livT ([[0, 1]], 0) = true := by kernel_rfl
theorem chOK_get {s : List UInt8} {r : Num × Int} (h : chOK s r = true) : (ruleP s).2 = 0 ∧ smB (ruleP s).1 = true ∧ numbersS (ruleP s).1 = r := by
  unfold chOK numE at h
  simp only [Bool.and_eq_true, decide_eq_true_eq] at h
  exact ⟨h.1.1, h.1.2, Prod.ext h.2.1 h.2.2⟩
end Go.Proofs.Ytcgbcbdgjhnlaaa

