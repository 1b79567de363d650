/- The last step of ReplyRenders: a response that is handed in; the library's table. -/
import Derived.Test.YtkhgmmejgikgnaaDoorTopD
import Derived.Test.YtkhgmmejgikgnaaDoorRepG
import Derived.Lib.LaidTab
import Derived.Stop.LaidErr
namespace Go.Proofs.YtkhgmmejgikgnaaDoor
open Go.ChangeShapes Go.WideShapes Go.ChangeAt Go.RowKit

theorem three {α : Type} : ∀ {l : List α}, l.length = 3 → ∃ a b c, l = [a, b, c]
  | [a, b, c], _ => ⟨a, b, c, rfl⟩
  | [], h => by cases h
  | [_], h => by cases h
  | [_, _], h => by cases h
  | _ :: _ :: _ :: _ :: _, h => by simp at h
theorem ht_of {W : World} (h : laidMet Tryd.prog [("internal/strconv.uint64pow10", Lib.tabData .u64 Lib.pow10Tab)] W) : HT (PW.all W) := by
  have hg : Tryd.prog.globalNamed "internal/strconv.uint64pow10" = some 5 := by kernel_rfl
  have ht : Lib.TabIs Tryd.prog W "internal/strconv.uint64pow10" .u64 Lib.pow10Tab := Lib.tabIs_of_head (g := 5) (t := 216) (e := 147) (n := 20) hg (by kernel_rfl) Tryd.underlying216 Tryd.underlying147 (by kernel_rfl) (by kernel_rfl) h
  refine ⟨?_, ht⟩
  show 5 < W.heap.size
  rcases Nat.lt_or_ge 5 W.heap.size with h1 | h1
  · exact h1
  · unfold Lib.TabIs World.var? at ht
    rw [hg] at ht
    simp only [Option.bind_some] at ht
    rw [Array.getElem?_eq_none h1] at ht
    cases ht
section
variable {H : Type} {enc : TypeId × Value → H} {w : World} {base : Nat} {spare : Nat → Bool} {held : Bool}
theorem cells_int : Tryd.prog.cellsOf 3 = 1 := by kernel_rfl
theorem cells_pairs : Tryd.prog.cellsOf 23 = 1 := by kernel_rfl
theorem cells_resp : Tryd.prog.cellsOf 47 = 3 := by kernel_rfl
theorem open_respc {n : Nat} {cs : List Value} {x0 x1 x2 : DataW H × List MemPlace} (hl : cs.length = 3)
    (h0 : DataW.trod enc Tryd.prog w base spare held n 3 ((cs.drop 0).take (Tryd.prog.cellsOf 3)) = some x0) (h1 : DataW.trod enc Tryd.prog w base spare held n 23 ((cs.drop 1).take (Tryd.prog.cellsOf 23)) = some x1)
    (h2 : DataW.trod enc Tryd.prog w base spare held n 9 ((cs.drop 2).take (Tryd.prog.cellsOf 9)) = some x2) : ∃ (st : Int) (l : List PairS) (u : Value) (b : List UInt8), -9223372036854775808 ≤ st ∧ st ≤ 9223372036854775807 ∧ cs = respC st u b ∧ RP pairC (PW.all w) u l := by
  rw [cells_int] at h0
  rw [cells_pairs] at h1
  rw [cells_string] at h2
  obtain ⟨c0, c1, c2, rfl⟩ := three hl
  simp only [List.drop_zero, List.take_succ_cons, List.take_zero, List.drop_succ_cons] at h0 h1 h2
  obtain ⟨st, k0, _, wf⟩ := DataW.trod_int Tryd.underlying3 h0
  obtain ⟨l, _, _, hr⟩ := open_RP Tryd.underlying23 cells_pair (fun _ => rfl) (fun n cs y hy => open_pair hy) h1
  obtain ⟨b, k2, _⟩ := open_str h2
  simp only [List.cons.injEq, and_true] at k0 k2
  have wf : IntKind.i64.min ≤ st ∧ st ≤ 9223372036854775807 := by simpa [Lit.wf] using wf
  have hm : IntKind.i64.min = -9223372036854775808 := by decide
  exact ⟨st, l, c1, b, hm ▸ wf.1, wf.2, by rw [k0, k2]; rfl, hr⟩
theorem open_resp_of {fs : Array Field} (hu : Tryd.prog.underlying 47 = some (.struct fs)) (h3 : fs.size = 3) (g0 : ∃ f, fs[0]? = some f ∧ f.type = 3 ∧ f.offset = 0) (g1 : ∃ f, fs[1]? = some f ∧ f.type = 23 ∧ f.offset = 1) (g2 : ∃ f, fs[2]? = some f ∧ f.type = 9 ∧ f.offset = 2)
    {cells : Array Value} {d : DataW H} {ps : List MemPlace} (h : DataW.Trod enc Tryd.prog w base spare held 47 (.agg cells) d ps) : ∃ (st : Int) (l : List PairS) (u : Value) (b : List UInt8), -9223372036854775808 ≤ st ∧ st ≤ 9223372036854775807 ∧ cells.toList = respC st u b ∧ RP pairC (PW.all w) u l := by
  obtain ⟨fuel, h⟩ := h
  have h : DataW.trod enc Tryd.prog w base spare held fuel 47 cells.toList = some (d, ps) := h
  obtain ⟨xs, n, _, _, hl, hlen, hf⟩ := DataW.trod_struct hu h
  rw [cells_resp] at hl
  rw [h3] at hlen
  obtain ⟨x0, x1, x2, rfl⟩ := three hlen
  obtain ⟨f0, a0, b0, c0⟩ := g0
  obtain ⟨f1, a1, b1, c1⟩ := g1
  obtain ⟨f2, a2, b2, c2⟩ := g2
  have h0 := hf 0 f0 a0
  have h1 := hf 1 f1 a1
  have h2 := hf 2 f2 a2
  rw [b0, c0] at h0
  rw [b1, c1] at h1
  rw [b2, c2] at h2
  exact open_respc hl h0 h1 h2
theorem open_resp {cells : Array Value} {d : DataW H} {ps : List MemPlace} (h : DataW.Trod enc Tryd.prog w base spare held 47 (.agg cells) d ps) : ∃ (st : Int) (l : List PairS) (u : Value) (b : List UInt8), -9223372036854775808 ≤ st ∧ st ≤ 9223372036854775807 ∧ cells.toList = respC st u b ∧ RP pairC (PW.all w) u l :=
  open_resp_of Tryd.underlying47 rfl ⟨_, rfl, rfl, rfl⟩ ⟨_, rfl, rfl, rfl⟩ ⟨_, rfl, rfl, rfl⟩ h
end
theorem rr_ht {W : World} (h : laidMetH Tryd.prog Rows.replyRendersRow.laid W) : HT (PW.all W) := by
  have h2 : laidMet Tryd.prog Rows.replyRendersRow.laid W := by rw [← MakeChecks.laidMetH_plain _ _ _ (by kernel_rfl)]; exact h
  have h3 : laidMet Tryd.prog [("internal/strconv.uint64pow10", Rows.laid_internal_strconv_uint64pow10)] W := laidMet.tail (laidMet.tail h2)
  have e : (Rows.laid_internal_strconv_uint64pow10 : DataW Unit) = Lib.tabData .u64 Lib.pow10Tab := by kernel_rfl
  rw [e] at h3
  exact ht_of h3
end Go.Proofs.YtkhgmmejgikgnaaDoor
