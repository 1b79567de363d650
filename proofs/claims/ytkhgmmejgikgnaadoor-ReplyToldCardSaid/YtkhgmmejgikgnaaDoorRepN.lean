/- json.Right of an error's value, walked. -/
import Derived.Test.YtkhgmmejgikgnaaDoorRepM
namespace Go.Proofs.YtkhgmmejgikgnaaDoor
open Go.RowKit

theorem distinct_x (g1 : Nat) (W : PW) (h1 : Rds W ⟨g1, 0, none⟩ [strV errK]) : CallsX Tryd.prog 133 ⟨[.slice (some ⟨g1, 0, none⟩) 1 1]⟩ [] W fun v _ => v = .bool true := by
  obtain ⟨hA, hc⟩ := h1 0 _ rfl
  exact CallsX.of_at k133 (distinctRun g1 0 1 W.w (W.lt _ hA) hc)
theorem bare_map (g1 g2 : Nat) (W : PW) : CallsX Tryd.prog 132 ⟨[.agg ⟨jerr g1 g2⟩, .bool false, .bool false, .bool false, .bool true, .bool true]⟩ [] W fun v _ => v = .bool true := by
  refine pureX hmix Tryd.func132 r132 (by kernel_rfl) [.agg ⟨jerr g1 g2⟩, .bool false, .bool false, .bool false, .bool true, .bool true] rfl ?_
  exact ⟨rfl, ret_plain rfl fun _ _ => rfl⟩
theorem bare_text (nm : List UInt8) (W : PW) : CallsX Tryd.prog 132 ⟨[.agg ⟨jerrL nm⟩, .bool false, .bool false, .bool true, .bool false, .bool false]⟩ [] W fun v _ => v = .bool true := by
  refine pureX hmix Tryd.func132 r132 (by kernel_rfl) [.agg ⟨jerrL nm⟩, .bool false, .bool false, .bool true, .bool false, .bool false] rfl ?_
  exact ⟨rfl, rfl, rfl, ret_plain rfl fun _ _ => rfl⟩
theorem right_text (nm : List UInt8) (ha : Asc nm) (hl : nm.length ≤ 1000) (W : PW) : CallsX Tryd.prog 89 ⟨[.agg ⟨jerrL nm⟩, .int .i64 15]⟩ [] W fun v _ => v = .bool true := by
  refine pureX hmix Tryd.func89 r89 (by kernel_rfl) [.agg ⟨jerrL nm⟩, .int .i64 15] rfl ?_
  refine ⟨rfl, rfl, rfl, rfl, rfl, ?_⟩
  refine call_v rfl (fun W' _ => bare_text nm W') (fun W2 v W3 l2 l3 hv => ?_)
  subst hv
  refine call_v rfl (fun W' _ => valid_x nm ha (by omega) W') (fun W2 v W3 l2 l3 hv => ?_)
  subst hv
  exact ret_plain rfl fun _ _ => rfl
theorem clo_x (nm : List UInt8) (ha : Asc nm) (hl : nm.length ≤ 1000) (g : Nat) (W : PW) (h : Rd W ⟨g, 0, none⟩ (.int .i64 16)) : CallsX Tryd.prog 135 ⟨[.agg ⟨jerrL nm⟩, .pointer (some ⟨g, 0, none⟩)]⟩ [] W fun v _ => v = .bool false := by
  refine pureX hmix Tryd.func135 r135 (by kernel_rfl) [.agg ⟨jerrL nm⟩, .pointer (some ⟨g, 0, none⟩)] rfl ?_
  refine ⟨.int .i64 16, h.o, rfl, 15, (i64_in 15 ⟨by decide, by decide⟩).symm, ?_⟩
  refine call_v rfl (fun W' _ => right_text nm ha hl W') (fun W2 v W3 l2 l3 hv => ?_)
  subst hv
  exact ret_plain rfl fun _ _ => rfl
def cloV (g : Nat) : Value := .func (.func 135) #[] #[.pointer (some ⟨g, 0, none⟩)]
theorem index_x (nm : List UInt8) (ha : Asc nm) (hl : nm.length ≤ 1000) (g g2 : Nat) (W : PW) (h : Rd W ⟨g, 0, none⟩ (.int .i64 16)) (h2 : Rds W ⟨g2, 0, none⟩ (jerrL nm)) :
    CallsX Tryd.prog 171 ⟨[.slice (some ⟨g2, 0, none⟩) 1 1, cloV g]⟩ [] W fun v _ => v = .int .i64 (-1) := by
  refine pureX hmix Tryd.func171 r171 (by kernel_rfl) [.slice (some ⟨g2, 0, none⟩) 1 1, cloV g] rfl ?_
  refine ⟨Nat, fun i => [(8, .v (.int .i64 i))], fun _ => [], fun _ => [], fun i _ => i ≤ 1, fun i => 1 - i, 0,
    all_sl ⟨rfl, trivial⟩, rfl, ole_refl _, Nat.zero_le _, loopOK (fun _ => ⟨⟨trivial, rfl⟩, trivial⟩) (fun _ => rfl) (fun _ => rfl), ?_⟩
  intro i W1 l1 hi fr
  refine ⟨rfl, br_split (fun hq => ?_) (fun hq => ?_)⟩
  · have hq : (i : Int) < 1 := hq
    obtain rfl : i = 0 := by omega
    refine ⟨⟨by decide, by decide⟩, _, rfl, jerrL nm, rfl, Rds.o (h2.mono l1), ?_⟩
    refine call_v rfl (fun W' lw => clo_x nm ha hl g W' (h.mono (l1.trans lw))) (fun W2 v W3 l2 l3 hv => ?_)
    subst hv
    exact ⟨rfl, _, (i64_in 1 ⟨by decide, by decide⟩).symm, 1, all_sl ⟨rfl, trivial⟩, rfl, ole_refl _, Nat.le_refl _, by decide⟩
  · exact ret_plain rfl fun _ _ => rfl
theorem contains_x (nm : List UInt8) (ha : Asc nm) (hl : nm.length ≤ 1000) (g g2 : Nat) (W : PW) (h : Rd W ⟨g, 0, none⟩ (.int .i64 16)) (h2 : Rds W ⟨g2, 0, none⟩ (jerrL nm)) :
    CallsX Tryd.prog 134 ⟨[.slice (some ⟨g2, 0, none⟩) 1 1, cloV g]⟩ [] W fun v _ => v = .bool false := by
  refine pureX hmix Tryd.func134 r134 (by kernel_rfl) [.slice (some ⟨g2, 0, none⟩) 1 1, cloV g] rfl ?_
  refine call_v rfl (fun W' lw => index_x nm ha hl g g2 W' (h.mono lw) (h2.mono lw)) (fun W2 v W3 l2 l3 hv => ?_)
  subst hv
  exact ⟨rfl, ret_plain rfl fun _ _ => rfl⟩
theorem right_map (nm : List UInt8) (ha : Asc nm) (hl : nm.length ≤ 1000) (g1 g2 : Nat) (W : PW) (h1 : Rds W ⟨g1, 0, none⟩ [strV errK]) (h2 : Rds W ⟨g2, 0, none⟩ (jerrL nm)) :
    CallsX Tryd.prog 89 ⟨[.agg ⟨jerr g1 g2⟩, .int .i64 16]⟩ [] W fun v _ => v = .bool true := by
  refine pureX hmix Tryd.func89 r89 (by kernel_rfl) [.agg ⟨jerr g1 g2⟩, .int .i64 16] rfl ?_
  refine ⟨rfl, rfl, rfl, rfl, rfl, rfl, rfl, ?_⟩
  refine call_v rfl (fun W' _ => bare_map g1 g2 W') (fun W2 v W3 l2 l3 hv => ?_)
  subst hv
  refine ⟨rfl, ?_⟩
  refine call_v rfl (fun W' lw => distinct_x g1 W' (h1.mono (l2.trans (l3.trans lw)))) (fun W4 v W5 l4 l5 hv => ?_)
  subst hv
  refine call_ro (fun v => v = .bool false) k134 (fun ρ w hst => ?_) (fun v W' _ hv => ?_)
  · have hv := hst.var_all (k := 1) rfl rfl
    exact contains_x nm ha hl (ρ 1) g2 (PW.all w) (hv 0 _ rfl) ((h2.mono (l2.trans (l3.trans (l4.trans l5)))).mono hst.le_all)
  subst hv
  exact ret_plain rfl fun _ _ => rfl
theorem right_x (nm : List UInt8) (ha : Asc nm) (hl : nm.length ≤ 1000) (g1 g2 : Nat) (W : PW) (h1 : Rds W ⟨g1, 0, none⟩ [strV errK]) (h2 : Rds W ⟨g2, 0, none⟩ (jerrL nm)) :
    CallsX Tryd.prog 46 ⟨[.agg ⟨jerr g1 g2⟩]⟩ [] W fun v _ => v = .bool true := by
  refine pureX hmix Tryd.func46 r46 (by kernel_rfl) [.agg ⟨jerr g1 g2⟩] rfl ?_
  refine call_v rfl (fun W' lw => right_map nm ha hl g1 g2 W' (h1.mono lw) (h2.mono lw)) (fun W2 v W3 l2 l3 hv => ?_)
  subst hv
  exact ret_plain rfl fun _ _ => rfl
end Go.Proofs.YtkhgmmejgikgnaaDoor
