/- A block's condition is its body's. -/
import Derived.Test.YtcgbcbdgjhnlaaaVPB
namespace Go.Proofs.Ytcgbcbdgjhnlaaa
open Go.RowKit

section
variable {P : Program} {B : Base}
def blkK (id : Nat) (K : Ex → Fr → GS → Prop) : Ex → Fr → GS → Prop
  | .normal, f, S => K .normal f S
  | .exit i, f, S => bif Nat.beq i id then K .normal f S else K (.exit i) f S
  | .ret, f, S => K .ret f S
theorem vc_block {f : Fr} {S : GS} {K : Ex → Fr → GS → Prop} {a : MC} {id : Nat} (h : vc P B f S (blkK id K) a) : vc P B f S K (.block id a) := by
  refine vc_mono (c := a) (fun e f' S' hk => ?_) h
  cases e with
  | normal => exact hk
  | exit i => exact hk
  | ret => exact hk
end
end Go.Proofs.Ytcgbcbdgjhnlaaa

