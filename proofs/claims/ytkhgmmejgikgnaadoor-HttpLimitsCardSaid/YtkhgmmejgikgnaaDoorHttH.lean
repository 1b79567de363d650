/- Requests, walked: something is read at all. -/
import Derived.Test.YtkhgmmejgikgnaaDoorHttG
namespace Go.Proofs.YtkhgmmejgikgnaaDoor
open Go.RowKit

def liveT : List UInt8 := [71, 69, 84, 32, 47, 97, 37, 50, 48, 98, 63, 99, 61, 100, 32, 72, 84, 84, 80, 47, 49, 46, 49, 13, 10, 72, 111, 115, 116, 58, 32, 120, 13, 10, 13, 10]
def partsB : Nat → List UInt8 → List (Nat × Nat × Operand)
  | _, [] => []
  | i, z :: r => (i, 1, .const (.int .u8 z.toNat)) :: partsB (i + 1) r
theorem fill_B (f : Fr) : fillG f ((List.replicate 36 ([Value.int .u8 0].map PV.v)).flatten) (partsB 0 liveT) = some ((liveT.map byteV).map PV.v) := by kernel_rfl
theorem live_http : httpS liveT = (0, some ⟨[71, 69, 84], [47, 97, 32, 98], [⟨[99], [100]⟩]⟩) := by kernel_rfl
attribute [local irreducible] fillG in
set_option maxRecDepth 20000 in
set_option maxHeartbeats 4000000 in
theorem hlives_x (W : PW) (hM : HM W) (hE : HE W) : CallsX Tryd.prog 21 ⟨[]⟩ [] W fun v _ => v = .bool true := by
  have hmax : (100000000 : Nat) ≤ maxLen := by decide
  refine pureX hmix Tryd.func21 r21 (by kernel_rfl) [] rfl ?_
  conv => whnf
  generalize hf : fillG _ _ _ = o
  obtain rfl : o = some _ := hf.symm.trans (fill_B _)
  clear hf
  refine ⟨rfl, .inr fun g0 => ?_⟩
  refine raw_mark (i := 0) (n := 36) (cs := liveT.map byteV) rfl Tryd.underlying33 Tryd.underlying5 rfl rfl (fun _ hb => hb) rfl (fun W1 l1 hlit => ?_)
  have hlit : RB W1 (.slice (some ⟨g0, 0, none⟩) liveT.length 36) liveT := ⟨_, _, rfl, Nat.le_refl _, by show 36 ≤ maxLen; omega, fun _ => ⟨_, rfl, hlit⟩⟩
  refine call_v rfl (fun W' lw => hparse_x liveT (by decide) (some ⟨g0, 0, none⟩) 36 (fun e => by cases e) W' (hM.mono (l1.trans lw)) (hE.mono (l1.trans lw)) (hlit.mono lw)) (fun W2 v W3 l2 l3 hv => ?_)
  rw [live_http] at hv
  obtain ⟨q, A, n, c, A', n', c', rfl, hq⟩ := hv
  obtain ⟨aq, cq, rfl, _, _⟩ := hq.form
  refine ⟨_, rfl, _, rfl, rfl, rfl, ?_⟩
  exact ret_plain rfl fun _ _ => rfl
end Go.Proofs.YtkhgmmejgikgnaaDoor
