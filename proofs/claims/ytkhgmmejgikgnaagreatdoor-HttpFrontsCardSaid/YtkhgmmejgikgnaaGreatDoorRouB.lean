/- The document's base64 of a text, walked. -/
import Derived.Test.YtkhgmmejgikgnaaGreatDoorRouA
namespace Go.Proofs.YtkhgmmejgikgnaaGreatDoor
open Go.RowKit

structure PdSt where
  i : Nat
  A : Option Addr
  c : Nat
  l : List UInt8
theorem rb_new {W : PW} {b c : Nat} {l : List UInt8} (h : Rds W ⟨b, 0, none⟩ (l.map byteV)) (h1 : l.length ≤ c) (h2 : c ≤ maxLen) : RB W (.slice (some ⟨b, 0, none⟩) l.length c) l :=
  ⟨_, _, rfl, h1, h2, fun _ => ⟨_, rfl, h⟩⟩
theorem map_step {t : List UInt8} {i : Nat} {x : UInt8} (h : t[i]? = some x) : (t.take (i + 1)).map encM = (t.take i).map encM ++ [encM x] := by rw [take_snoc h, List.map_append]; rfl
end Go.Proofs.YtkhgmmejgikgnaaGreatDoor
