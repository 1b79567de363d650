/- strings.Builder's own check, laid at this seat by hand: the shelf's table of numbers. -/
import Derived.Test.YtkhgmmejgikgnaaGreatDoorShelfB
import Derived.Shelf.Strings.Builder1
import Derived.Shelf.Strings.BuilderF
namespace Go.Proofs.YtkhgmmejgikgnaaGreatDoor
open Go.RowKit

def Tryz.laysB_ren : Go.Shelf.Ren := ⟨fun | 240 => 64 | 276 => 78 | n => n, fun | 0 => 0 | 4 => 4 | 9 => 9 | 20 => 20 | 70 => 74 | 72 => 76 | 164 => 103 | 37 => 22 | 5 => 5 | 3 => 3 | n => n, fun n => n⟩
theorem Tryz.laysB : Go.Proofs.Lays.n240 Tryz.prog Tryz.laysB_ren := {
  mixed := by kernel_rfl
  f240 := Tryz.func64.trans (congrArg some (by kernel_rfl))
  f276 := Tryz.func78.trans (congrArg some (by kernel_rfl))
  t0 := Tryz.underlying0
  a0 := Tryz.isAgg0
  z0 := Tryz.sizeOf0
  v0 := Tryz.zeroValue0
  t4 := Tryz.underlying4
  a4 := Tryz.isAgg4
  z4 := Tryz.sizeOf4
  v4 := Tryz.zeroValue4
  t9 := Tryz.underlying9
  a9 := Tryz.isAgg9
  z9 := Tryz.sizeOf9
  v9 := Tryz.zeroValue9
  t20 := Tryz.underlying20
  a20 := Tryz.isAgg20
  z20 := Tryz.sizeOf20
  v20 := Tryz.zeroValue20
  t70 := Tryz.underlying74
  a70 := Tryz.isAgg74
  z70 := Tryz.sizeOf74
  v70 := Tryz.zeroValue74
  t72 := Tryz.underlying76
  a72 := Tryz.isAgg76
  z72 := Tryz.sizeOf76
  v72 := Tryz.zeroValue76
  t164 := Tryz.underlying103
  a164 := Tryz.isAgg103
  z164 := Tryz.sizeOf103
  v164 := Tryz.zeroValue103 }
theorem Tryz.Builder_Extra_B : Builder.Extra Tryz.prog Tryz.laysB_ren := {
  sizeBuilder := by kernel_rfl
  liesBuilder := by kernel_rfl
  t5 := Tryz.underlying5
  a5 := Tryz.isAgg5
  z5 := Tryz.sizeOf5
  v5 := Tryz.zeroValue5
  infoByte := by kernel_rfl
  cellsByte := by kernel_rfl
  sizeByte := by kernel_rfl
  neB5 := by decide }
end Go.Proofs.YtkhgmmejgikgnaaGreatDoor
