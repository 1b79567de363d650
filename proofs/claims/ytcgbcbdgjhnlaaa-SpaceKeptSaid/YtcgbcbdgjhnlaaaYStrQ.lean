/- Layer 18 (strata), plain: the chains of relations that the law asks for, and their numbers. No program here. -/
import Derived.Test.YtcgbcbdgjhnlaaaYStrP
namespace Go.Proofs.Ytcgbcbdgjhnlaaa
open Go.RowKit

def smR (r : RelS) : Bool := Nat.ble r.types.length 1000 && Nat.ble r.nodes.length 1000 && r.nodes.all fun n => Nat.ble n.rel.length 1000 && Nat.ble n.thn.length 1000 && (decide (n.kind < 4) || (decide (0 ≤ n.a) && decide (n.a < r.nodes.length) && decide (0 ≤ n.b) && decide (n.b < r.nodes.length)))
def smB (c : ConfS) : Bool := Nat.ble c.spaces.length 1000 && Nat.ble c.scopes.length 1000 && c.spaces.all fun s => Nat.ble s.rels.length 1000 && s.rels.all smR
end Go.Proofs.Ytcgbcbdgjhnlaaa

