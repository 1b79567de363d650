/- route.decode, route.Basic, walked at a header that was made of a name and a secret. -/
import Derived.Test.YtkhgmmejgikgnaaGreatDoorRouC
import Derived.Test.YtkhgmmejgikgnaaGreatDoorShelfB
import Derived.Lib.MapLaws
import Derived.Lib.TrimUEq
namespace Go.Proofs.YtkhgmmejgikgnaaGreatDoor
open Go.RowKit

/-! ## strings.Map with the mapping 'other', of ASCII -/
def otherF (x : Int) : Int := if x = 43 then 45 else if x = 47 then 95 else if x = 45 ∨ x = 95 then 61 else x
theorem asc_one {l : List UInt8} {c : UInt8} (h : c.toNat < 128) : Lib.decodeL (c :: l) = (c.toNat, 1) := by
  rw [Lib.decodeL_N]
  unfold Lib.decodeN
  rw [if_pos (by simpa using h)]
  simp
theorem other_byte {c : UInt8} (h : c.toNat < 128) : 0 ≤ otherF c.toNat ∧ otherF c.toNat ≤ 127 ∧ Lib.encodeRune (otherF c.toNat) = [decM c] := by
  have : ∀ c : UInt8, c.toNat < 128 → 0 ≤ otherF c.toNat ∧ otherF c.toNat ≤ 127 ∧ Lib.encodeRune (otherF c.toNat) = [decM c] := fun c =>
    byte_all (p := fun c => c.toNat < 128 → 0 ≤ otherF c.toNat ∧ otherF c.toNat ≤ 127 ∧ Lib.encodeRune (otherF c.toNat) = [decM c]) (by decide +kernel) c
  exact this c h
theorem map_asc : ∀ l : List UInt8, (∀ c ∈ l, c.toNat < 128) → Lib.mapD otherF l = l.map decM
  | [], _ => rfl
  | c :: r, h => by
    have hc := h c (List.mem_cons_self ..)
    obtain ⟨h1, _, h2⟩ := other_byte hc
    rw [Lib.mapD_step otherF (c :: r) (by simp), asc_one hc]
    dsimp only
    rw [if_pos h1, h2, show (c :: r).drop 1 = r from rfl, map_asc r fun x hx => h x (List.mem_cons_of_mem _ hx)]
    rfl
/-- utf8's tables stand, and are never written again. -/
def HU (W : PW) : Prop := W.A 3 ∧ W.A 4 ∧ Lib.Utf8Tabs 3 4 W.w
theorem HU.mono {W W' : PW} (h : HU W) (l : W.Le W') : HU W' := by
  obtain ⟨h1, h2, h3, h4⟩ := h
  have e1 := l.bl _ h1
  have e2 := l.bl _ h2
  refine ⟨l.al _ h1, l.al _ h2, fun c hc => ?_, fun i hi => ⟨?_, ?_⟩⟩
  · rw [← h3 c hc]; unfold World.cell?; rw [e1]
  · rw [← (h4 i hi).1]; unfold World.cell?; rw [e2]
  · rw [← (h4 i hi).2]; unfold World.cell?; rw [e2]
end Go.Proofs.YtkhgmmejgikgnaaGreatDoor
