/- Layer 19 (space), walked: versions loaded. No statement is proved here. -/
import Derived.Test.YtcgbcbdgjhnlaaaGreatXMI
import Derived.Test.YtcgbcbdgjhnlaaaGreatXSpaO
import Derived.Test.YtcgbcbdgjhnlaaaGreatXMJ
namespace Go.Proofs.YtcgbcbdgjhnlaaaGreat
open Go.RowKit

def verD (W : PW) (d : DoS) (cs : List Value) : Prop := ∃ a1 n1 c1 a2 n2 c2, cs = [.int .u64 d.rev, .slice a1 n1 c1, .slice a2 n2 c2] ∧ ConfR W d.c [.slice a1 n1 c1, .slice a2 n2 c2]
theorem verD.mono (W W' : PW) (d : DoS) (cs : List Value) (l : W.Le W') (h : verD W d cs) : verD W' d cs := let ⟨a1, n1, c1, a2, n2, c2, e1, h1⟩ := h; ⟨a1, n1, c1, a2, n2, c2, e1, ConfR.mono _ _ _ _ l h1⟩
end Go.Proofs.YtcgbcbdgjhnlaaaGreat
