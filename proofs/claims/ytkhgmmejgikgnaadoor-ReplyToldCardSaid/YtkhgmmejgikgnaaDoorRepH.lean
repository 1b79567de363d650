/- Layer 35 (reply): what an error is called; the program's function and the document's. -/
import Derived.Test.YtkhgmmejgikgnaaDoorRepG
import Derived.Test.YtkhgmmejgikgnaaDoorCodeRS
namespace Go.Proofs.YtkhgmmejgikgnaaDoor
open Go.RowKit

def seT : List UInt8 := [115, 101, 114, 118, 101, 114, 95, 101, 114, 114, 111, 114]
def toldT : List (Int × List UInt8) := [(200, []), (500, [115, 101, 114, 118, 101, 114, 95, 101, 114, 114, 111, 114]), (400, [105, 110, 118, 97, 108, 105, 100, 95, 114, 101, 113, 117, 101, 115, 116]), (400, [105, 110, 118, 97, 108, 105, 100, 95, 114, 101, 113, 117, 101, 115, 116]), (400, [105, 110, 118, 97, 108, 105, 100, 95, 114, 101, 113, 117, 101, 115, 116]), (413, [116, 111, 111, 95, 108, 97, 114, 103, 101]), (400, [105, 110, 118, 97, 108, 105, 100, 95, 114, 101, 113, 117, 101, 115, 116]), (500, [115, 101, 114, 118, 101, 114, 95, 101, 114, 114, 111, 114]), (507, [105, 110, 115, 117, 102, 102, 105, 99, 105, 101, 110, 116, 95, 115, 116, 111, 114, 97, 103, 101]), (400, [105, 110, 118, 97, 108, 105, 100, 95, 114, 101, 113, 117, 101, 115, 116]), (409, [99, 111, 110, 102, 108, 105, 99, 116]), (404, [110, 111, 116, 95, 102, 111, 117, 110, 100]), (400, [105, 110, 118, 97, 108, 105, 100, 95, 114, 101, 118, 105, 115, 105, 111, 110]), (412, [112, 114, 101, 99, 111, 110, 100, 105, 116, 105, 111, 110, 95, 102, 97, 105, 108, 101, 100]), (400, [105, 110, 118, 97, 108, 105, 100, 95, 99, 111, 110, 102, 105, 103]), (400, [105, 110, 118, 97, 108, 105, 100, 95, 99, 111, 110, 102, 105, 103]), (503, [116, 101, 109, 112, 111, 114, 97, 114, 105, 108, 121, 95, 117, 110, 97, 118, 97, 105, 108, 97, 98, 108, 101]), (401, [105, 110, 118, 97, 108, 105, 100, 95, 99, 108, 105, 101, 110, 116]), (400, [105, 110, 118, 97, 108, 105, 100, 95, 103, 114, 97, 110, 116]), (400, [105, 110, 118, 97, 108, 105, 100, 95, 115, 99, 111, 112, 101]), (403, [97, 99, 99, 101, 115, 115, 95, 100, 101, 110, 105, 101, 100]), (400, [105, 110, 118, 97, 108, 105, 100, 95, 114, 101, 113, 117, 101, 115, 116]), (500, [115, 101, 114, 118, 101, 114, 95, 101, 114, 114, 111, 114]), (405, [109, 101, 116, 104, 111, 100, 95, 110, 111, 116, 95, 97, 108, 108, 111, 119, 101, 100]), (404, [110, 111, 116, 95, 102, 111, 117, 110, 100]), (413, [116, 111, 111, 95, 108, 97, 114, 103, 101])]
def toldS (e : Int) : Int × List UInt8 := if e < 0 ∨ 25 < e then (500, seT) else (toldT[e.toNat]?).getD (500, seT)
theorem told_out {e : Int} (h : e < 0 ∨ 25 < e) : toldS e = (500, seT) := if_pos h
theorem cases26 {e : Int} {P : Int → Prop} (h : ∀ n : Nat, n < 26 → P n) (ho : (e < 0 ∨ 25 < e) → P e) : P e := by
  by_cases k : e < 0 ∨ 25 < e
  · exact ho k
  · have : e = (e.toNat : Int) := by omega
    rw [this]
    exact h _ (by omega)
theorem each26 {P : Int → Prop} (h0 : P 0) (h1 : P 1) (h2 : P 2) (h3 : P 3) (h4 : P 4) (h5 : P 5) (h6 : P 6) (h7 : P 7) (h8 : P 8) (h9 : P 9) (h10 : P 10) (h11 : P 11) (h12 : P 12) (h13 : P 13) (h14 : P 14) (h15 : P 15) (h16 : P 16) (h17 : P 17) (h18 : P 18) (h19 : P 19) (h20 : P 20) (h21 : P 21) (h22 : P 22) (h23 : P 23) (h24 : P 24) (h25 : P 25) : ∀ n : Nat, n < 26 → P n := by
  intro n hn
  match n, hn with
  | 0, _ => exact h0
  | 1, _ => exact h1
  | 2, _ => exact h2
  | 3, _ => exact h3
  | 4, _ => exact h4
  | 5, _ => exact h5
  | 6, _ => exact h6
  | 7, _ => exact h7
  | 8, _ => exact h8
  | 9, _ => exact h9
  | 10, _ => exact h10
  | 11, _ => exact h11
  | 12, _ => exact h12
  | 13, _ => exact h13
  | 14, _ => exact h14
  | 15, _ => exact h15
  | 16, _ => exact h16
  | 17, _ => exact h17
  | 18, _ => exact h18
  | 19, _ => exact h19
  | 20, _ => exact h20
  | 21, _ => exact h21
  | 22, _ => exact h22
  | 23, _ => exact h23
  | 24, _ => exact h24
  | 25, _ => exact h25
  | n + 26, hn => omega
def ToldC (fid : FuncId) (e : Int) : Prop := ∀ W : PW, CallsX Tryd.prog fid ⟨[.int .i64 e]⟩ [] W fun v _ => v = .tuple ⟨[.int .i64 (toldS e).1, strV (toldS e).2]⟩

set_option maxHeartbeats 4000000 in
theorem later_out {e : Int} (h : ¬ (e = 24 ∨ e = 11 ∨ e = 23 ∨ e = 10 ∨ e = 13 ∨ e = 5 ∨ e = 25 ∨ e = 16 ∨ e = 8)) : ∀ W : PW, CallsX Tryd.prog 75 ⟨[.int .i64 e]⟩ [] W fun v _ => v = .tuple ⟨[.int .i64 500, strV seT]⟩ := by
  intro W
  refine pureX hmix Tryd.func75 r75 (by kernel_rfl) [.int .i64 e] rfl ?_
  refine ⟨rfl, br_no (p := e = 24) (by omega) ?_⟩
  refine ⟨rfl, br_no (p := e = 11) (by omega) ?_⟩
  refine ⟨rfl, br_no (p := e = 23) (by omega) ?_⟩
  refine ⟨rfl, br_no (p := e = 10) (by omega) ?_⟩
  refine ⟨rfl, br_no (p := e = 13) (by omega) ?_⟩
  refine ⟨rfl, br_no (p := e = 5) (by omega) ?_⟩
  refine ⟨rfl, br_no (p := e = 25) (by omega) ?_⟩
  refine ⟨rfl, br_no (p := e = 16) (by omega) ?_⟩
  refine ⟨rfl, br_no (p := e = 8) (by omega) ?_⟩
  exact ret_plain rfl fun _ _ => rfl
theorem later_at (n : Nat) (hn : n < 26) (hm : n = 24 ∨ n = 11 ∨ n = 23 ∨ n = 10 ∨ n = 13 ∨ n = 5 ∨ n = 25 ∨ n = 16 ∨ n = 8) : ToldC 75 n := by
  intro W
  refine pureX hmix Tryd.func75 r75 (by kernel_rfl) [.int .i64 n] rfl ?_
  rcases hm with rfl | rfl | rfl | rfl | rfl | rfl | rfl | rfl | rfl
  · exact ⟨rfl, ret_plain rfl fun _ _ => rfl⟩
  · exact ⟨rfl, rfl, ret_plain rfl fun _ _ => rfl⟩
  · exact ⟨rfl, rfl, rfl, ret_plain rfl fun _ _ => rfl⟩
  · exact ⟨rfl, rfl, rfl, rfl, ret_plain rfl fun _ _ => rfl⟩
  · exact ⟨rfl, rfl, rfl, rfl, rfl, ret_plain rfl fun _ _ => rfl⟩
  · exact ⟨rfl, rfl, rfl, rfl, rfl, rfl, ret_plain rfl fun _ _ => rfl⟩
  · exact ⟨rfl, rfl, rfl, rfl, rfl, rfl, rfl, ret_plain rfl fun _ _ => rfl⟩
  · exact ⟨rfl, rfl, rfl, rfl, rfl, rfl, rfl, rfl, ret_plain rfl fun _ _ => rfl⟩
  · exact ⟨rfl, rfl, rfl, rfl, rfl, rfl, rfl, rfl, rfl, ret_plain rfl fun _ _ => rfl⟩
set_option maxHeartbeats 4000000 in
theorem told_x (e : Int) : ToldC 37 e := by
  refine cases26 (P := fun e => ToldC 37 e) (each26 ?_ ?_ ?_ ?_ ?_ ?_ ?_ ?_ ?_ ?_ ?_ ?_ ?_ ?_ ?_ ?_ ?_ ?_ ?_ ?_ ?_ ?_ ?_ ?_ ?_ ?_) ?_
  · intro W
    refine pureX hmix Tryd.func37 r37 (by kernel_rfl) [.int .i64 0] rfl ?_
    exact ⟨rfl, ret_plain rfl fun _ _ => rfl⟩
  · intro W
    refine pureX hmix Tryd.func37 r37 (by kernel_rfl) [.int .i64 1] rfl ?_
    refine ⟨rfl, rfl, rfl, rfl, rfl, rfl, rfl, rfl, rfl, rfl, rfl, rfl, rfl, rfl, ?_⟩
    refine call_v rfl (fun W' _ => later_out (e := 1) (by decide) W') (fun W2 v W3 l2 l3 hv => ?_)
    subst hv
    exact ⟨_, rfl, _, rfl, ret_plain rfl fun _ _ => rfl⟩
  · intro W
    refine pureX hmix Tryd.func37 r37 (by kernel_rfl) [.int .i64 2] rfl ?_
    exact ⟨rfl, rfl, rfl, rfl, rfl, rfl, ret_plain rfl fun _ _ => rfl⟩
  · intro W
    refine pureX hmix Tryd.func37 r37 (by kernel_rfl) [.int .i64 3] rfl ?_
    exact ⟨rfl, rfl, ret_plain rfl fun _ _ => rfl⟩
  · intro W
    refine pureX hmix Tryd.func37 r37 (by kernel_rfl) [.int .i64 4] rfl ?_
    exact ⟨rfl, rfl, rfl, ret_plain rfl fun _ _ => rfl⟩
  · intro W
    refine pureX hmix Tryd.func37 r37 (by kernel_rfl) [.int .i64 5] rfl ?_
    refine ⟨rfl, rfl, rfl, rfl, rfl, rfl, rfl, rfl, rfl, rfl, rfl, rfl, rfl, rfl, ?_⟩
    refine call_v rfl (fun W' _ => later_at 5 (by decide) (by decide) W') (fun W2 v W3 l2 l3 hv => ?_)
    subst hv
    exact ⟨_, rfl, _, rfl, ret_plain rfl fun _ _ => rfl⟩
  · intro W
    refine pureX hmix Tryd.func37 r37 (by kernel_rfl) [.int .i64 6] rfl ?_
    exact ⟨rfl, rfl, rfl, rfl, ret_plain rfl fun _ _ => rfl⟩
  · intro W
    refine pureX hmix Tryd.func37 r37 (by kernel_rfl) [.int .i64 7] rfl ?_
    refine ⟨rfl, rfl, rfl, rfl, rfl, rfl, rfl, rfl, rfl, rfl, rfl, rfl, rfl, rfl, ?_⟩
    refine call_v rfl (fun W' _ => later_out (e := 7) (by decide) W') (fun W2 v W3 l2 l3 hv => ?_)
    subst hv
    exact ⟨_, rfl, _, rfl, ret_plain rfl fun _ _ => rfl⟩
  · intro W
    refine pureX hmix Tryd.func37 r37 (by kernel_rfl) [.int .i64 8] rfl ?_
    refine ⟨rfl, rfl, rfl, rfl, rfl, rfl, rfl, rfl, rfl, rfl, rfl, rfl, rfl, rfl, ?_⟩
    refine call_v rfl (fun W' _ => later_at 8 (by decide) (by decide) W') (fun W2 v W3 l2 l3 hv => ?_)
    subst hv
    exact ⟨_, rfl, _, rfl, ret_plain rfl fun _ _ => rfl⟩
  · intro W
    refine pureX hmix Tryd.func37 r37 (by kernel_rfl) [.int .i64 9] rfl ?_
    exact ⟨rfl, rfl, rfl, rfl, rfl, rfl, rfl, ret_plain rfl fun _ _ => rfl⟩
  · intro W
    refine pureX hmix Tryd.func37 r37 (by kernel_rfl) [.int .i64 10] rfl ?_
    refine ⟨rfl, rfl, rfl, rfl, rfl, rfl, rfl, rfl, rfl, rfl, rfl, rfl, rfl, rfl, ?_⟩
    refine call_v rfl (fun W' _ => later_at 10 (by decide) (by decide) W') (fun W2 v W3 l2 l3 hv => ?_)
    subst hv
    exact ⟨_, rfl, _, rfl, ret_plain rfl fun _ _ => rfl⟩
  · intro W
    refine pureX hmix Tryd.func37 r37 (by kernel_rfl) [.int .i64 11] rfl ?_
    refine ⟨rfl, rfl, rfl, rfl, rfl, rfl, rfl, rfl, rfl, rfl, rfl, rfl, rfl, rfl, ?_⟩
    refine call_v rfl (fun W' _ => later_at 11 (by decide) (by decide) W') (fun W2 v W3 l2 l3 hv => ?_)
    subst hv
    exact ⟨_, rfl, _, rfl, ret_plain rfl fun _ _ => rfl⟩
  · intro W
    refine pureX hmix Tryd.func37 r37 (by kernel_rfl) [.int .i64 12] rfl ?_
    exact ⟨rfl, rfl, rfl, rfl, rfl, rfl, rfl, rfl, rfl, rfl, rfl, rfl, ret_plain rfl fun _ _ => rfl⟩
  · intro W
    refine pureX hmix Tryd.func37 r37 (by kernel_rfl) [.int .i64 13] rfl ?_
    refine ⟨rfl, rfl, rfl, rfl, rfl, rfl, rfl, rfl, rfl, rfl, rfl, rfl, rfl, rfl, ?_⟩
    refine call_v rfl (fun W' _ => later_at 13 (by decide) (by decide) W') (fun W2 v W3 l2 l3 hv => ?_)
    subst hv
    exact ⟨_, rfl, _, rfl, ret_plain rfl fun _ _ => rfl⟩
  · intro W
    refine pureX hmix Tryd.func37 r37 (by kernel_rfl) [.int .i64 14] rfl ?_
    exact ⟨rfl, rfl, rfl, rfl, rfl, rfl, rfl, rfl, rfl, rfl, ret_plain rfl fun _ _ => rfl⟩
  · intro W
    refine pureX hmix Tryd.func37 r37 (by kernel_rfl) [.int .i64 15] rfl ?_
    exact ⟨rfl, rfl, rfl, rfl, rfl, rfl, rfl, rfl, rfl, rfl, rfl, ret_plain rfl fun _ _ => rfl⟩
  · intro W
    refine pureX hmix Tryd.func37 r37 (by kernel_rfl) [.int .i64 16] rfl ?_
    refine ⟨rfl, rfl, rfl, rfl, rfl, rfl, rfl, rfl, rfl, rfl, rfl, rfl, rfl, rfl, ?_⟩
    refine call_v rfl (fun W' _ => later_at 16 (by decide) (by decide) W') (fun W2 v W3 l2 l3 hv => ?_)
    subst hv
    exact ⟨_, rfl, _, rfl, ret_plain rfl fun _ _ => rfl⟩
  · intro W
    refine pureX hmix Tryd.func37 r37 (by kernel_rfl) [.int .i64 17] rfl ?_
    exact ⟨rfl, rfl, rfl, rfl, rfl, rfl, rfl, rfl, rfl, rfl, rfl, rfl, rfl, ret_plain rfl fun _ _ => rfl⟩
  · intro W
    refine pureX hmix Tryd.func37 r37 (by kernel_rfl) [.int .i64 18] rfl ?_
    exact ⟨rfl, rfl, rfl, rfl, rfl, rfl, rfl, rfl, ret_plain rfl fun _ _ => rfl⟩
  · intro W
    refine pureX hmix Tryd.func37 r37 (by kernel_rfl) [.int .i64 19] rfl ?_
    exact ⟨rfl, rfl, rfl, rfl, rfl, rfl, rfl, rfl, rfl, ret_plain rfl fun _ _ => rfl⟩
  · intro W
    refine pureX hmix Tryd.func37 r37 (by kernel_rfl) [.int .i64 20] rfl ?_
    exact ⟨rfl, rfl, rfl, rfl, rfl, rfl, rfl, rfl, rfl, rfl, rfl, rfl, rfl, rfl, ret_plain rfl fun _ _ => rfl⟩
  · intro W
    refine pureX hmix Tryd.func37 r37 (by kernel_rfl) [.int .i64 21] rfl ?_
    exact ⟨rfl, rfl, rfl, rfl, rfl, ret_plain rfl fun _ _ => rfl⟩
  · intro W
    refine pureX hmix Tryd.func37 r37 (by kernel_rfl) [.int .i64 22] rfl ?_
    refine ⟨rfl, rfl, rfl, rfl, rfl, rfl, rfl, rfl, rfl, rfl, rfl, rfl, rfl, rfl, ?_⟩
    refine call_v rfl (fun W' _ => later_out (e := 22) (by decide) W') (fun W2 v W3 l2 l3 hv => ?_)
    subst hv
    exact ⟨_, rfl, _, rfl, ret_plain rfl fun _ _ => rfl⟩
  · intro W
    refine pureX hmix Tryd.func37 r37 (by kernel_rfl) [.int .i64 23] rfl ?_
    refine ⟨rfl, rfl, rfl, rfl, rfl, rfl, rfl, rfl, rfl, rfl, rfl, rfl, rfl, rfl, ?_⟩
    refine call_v rfl (fun W' _ => later_at 23 (by decide) (by decide) W') (fun W2 v W3 l2 l3 hv => ?_)
    subst hv
    exact ⟨_, rfl, _, rfl, ret_plain rfl fun _ _ => rfl⟩
  · intro W
    refine pureX hmix Tryd.func37 r37 (by kernel_rfl) [.int .i64 24] rfl ?_
    refine ⟨rfl, rfl, rfl, rfl, rfl, rfl, rfl, rfl, rfl, rfl, rfl, rfl, rfl, rfl, ?_⟩
    refine call_v rfl (fun W' _ => later_at 24 (by decide) (by decide) W') (fun W2 v W3 l2 l3 hv => ?_)
    subst hv
    exact ⟨_, rfl, _, rfl, ret_plain rfl fun _ _ => rfl⟩
  · intro W
    refine pureX hmix Tryd.func37 r37 (by kernel_rfl) [.int .i64 25] rfl ?_
    refine ⟨rfl, rfl, rfl, rfl, rfl, rfl, rfl, rfl, rfl, rfl, rfl, rfl, rfl, rfl, ?_⟩
    refine call_v rfl (fun W' _ => later_at 25 (by decide) (by decide) W') (fun W2 v W3 l2 l3 hv => ?_)
    subst hv
    exact ⟨_, rfl, _, rfl, ret_plain rfl fun _ _ => rfl⟩
  intro ho W
  refine pureX hmix Tryd.func37 r37 (by kernel_rfl) [.int .i64 e] rfl ?_
  refine ⟨rfl, br_no (p := e = 0) (by omega) ?_⟩
  refine ⟨rfl, br_no (p := e = 3) (by omega) ?_⟩
  refine ⟨rfl, br_no (p := e = 4) (by omega) ?_⟩
  refine ⟨rfl, br_no (p := e = 6) (by omega) ?_⟩
  refine ⟨rfl, br_no (p := e = 21) (by omega) ?_⟩
  refine ⟨rfl, br_no (p := e = 2) (by omega) ?_⟩
  refine ⟨rfl, br_no (p := e = 9) (by omega) ?_⟩
  refine ⟨rfl, br_no (p := e = 18) (by omega) ?_⟩
  refine ⟨rfl, br_no (p := e = 19) (by omega) ?_⟩
  refine ⟨rfl, br_no (p := e = 14) (by omega) ?_⟩
  refine ⟨rfl, br_no (p := e = 15) (by omega) ?_⟩
  refine ⟨rfl, br_no (p := e = 12) (by omega) ?_⟩
  refine ⟨rfl, br_no (p := e = 17) (by omega) ?_⟩
  refine ⟨rfl, br_no (p := e = 20) (by omega) ?_⟩
  refine call_v rfl (fun W' _ => later_out (by omega) W') (fun W2 v W3 l2 l3 hv => ?_)
  subst hv
  exact ⟨_, rfl, _, rfl, ret_plain rfl fun _ _ => by rw [told_out ho]; rfl⟩
theorem tfill_S (f : Fr) : fillG f ((List.replicate 26 ([strV []].map PV.v)).flatten) (partsS 0 (toldT.map (·.2))) = some ((toldT.map fun p => strV p.2).map PV.v) := by kernel_rfl
theorem tfill_I (f : Fr) : fillG f ((List.replicate 26 ([Value.int .i64 0].map PV.v)).flatten) (partsI 0 (toldT.map (·.1))) = some ((toldT.map fun p => Value.int .i64 p.1).map PV.v) := by kernel_rfl
theorem told_at {i : Nat} (h : i < 26) : ∃ (z : Int) (t : List UInt8), toldS i = (z, t) ∧ (toldT.map fun p => Value.int .i64 p.1)[i]? = some (.int .i64 z) ∧ (toldT.map fun p => strV p.2)[i]? = some (strV t) := by
  have hl : i < toldT.length := h
  refine ⟨toldT[i].1, toldT[i].2, ?_, ?_, ?_⟩
  · unfold toldS
    rw [if_neg (by omega), Int.toNat_natCast, List.getElem?_eq_getElem hl]; rfl
  · rw [List.getElem?_map, List.getElem?_eq_getElem hl]; rfl
  · rw [List.getElem?_map, List.getElem?_eq_getElem hl]; rfl
attribute [local irreducible] fillG in
set_option maxHeartbeats 4000000 in
theorem reftold_x (e : Int) : ToldC 38 e := by
  intro W
  refine pureX hmix Tryd.func38 r38 (by kernel_rfl) [.int .i64 e] rfl ?_
  conv => whnf
  generalize hf : fillG _ _ _ = o
  obtain rfl : o = some _ := hf.symm.trans (tfill_S _)
  clear hf
  refine ⟨rfl, .inl fun g1 W1 l1 hr1 => ?_⟩
  conv => whnf
  generalize hf : fillG _ _ _ = o
  obtain rfl : o = some _ := hf.symm.trans (tfill_I _)
  clear hf
  refine ⟨rfl, .inl fun g2 W2 l2 hr2 => ⟨rfl, ?_⟩⟩
  apply br_split
  · intro h
    have h : e < 0 := h
    exact ret_plain rfl fun _ _ => by rw [told_out (.inl h)]; rfl
  intro h
  have h : ¬ e < 0 := h
  refine ⟨rfl, ?_⟩
  apply br_split
  · intro h2
    have h2 : 25 < e := h2
    exact ret_plain rfl fun _ _ => by rw [told_out (.inr h2)]; rfl
  intro h2
  have h2 : ¬ 25 < e := h2
  obtain ⟨z, t, e1, e2, e3⟩ := told_at (i := e.toNat) (by omega)
  have e0 : ((e.toNat : Nat) : Int) = e := by omega
  rw [e0] at e1
  refine ⟨⟨by omega, by show e < ((26 : Nat) : Int); omega⟩, _, rfl, .int .i64 z, .inl (by rw [Nat.mul_one]; exact hr2 _ _ e2), ⟨by omega, by show e < ((26 : Nat) : Int); omega⟩, _, rfl, strV t, .inl (by rw [Nat.mul_one]; exact (hr1 _ _ e3).mono l2), ret_plain rfl fun _ _ => ?_⟩
  rw [e1]
end Go.Proofs.YtkhgmmejgikgnaaDoor
