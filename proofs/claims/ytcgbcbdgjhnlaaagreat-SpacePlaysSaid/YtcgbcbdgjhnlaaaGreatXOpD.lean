/- What a statement's arguments are, as they are handed in: lists of events of a history. -/
import Derived.Test.YtcgbcbdgjhnlaaaGreatXMJ
namespace Go.Proofs.YtcgbcbdgjhnlaaaGreat
open Go.ChangeShapes Go.WideShapes Go.ChangeAt Go.RowKit

section
variable {H : Type} {enc : TypeId × Value → H} {w : World} {base : Nat} {spare : Nat → Bool} {held : Bool}
theorem cells_u64 : Tryz.prog.cellsOf 23 = 1 := by kernel_rfl
theorem cells_do : Tryz.prog.cellsOf 35 = 4 := by kernel_rfl
theorem open_u64 {fuel : Nat} {cs : List Value} {x : DataW H × List MemPlace} (h : DataW.trod enc Tryz.prog w base spare held fuel 23 cs = some x) : ∃ n : Int, cs = [.int .u64 n] := by
  obtain ⟨n, h1, _⟩ := DataW.trod_int Tryz.underlying23 h
  exact ⟨n, h1⟩
theorem do_cells {n : Nat} {cs : List Value} {x0 x1 x2 : DataW H × List MemPlace} (hl : cs.length = 4)
    (h0 : DataW.trod enc Tryz.prog w base spare held n 3 ((cs.drop 0).take (Tryz.prog.cellsOf 3)) = some x0) (h1 : DataW.trod enc Tryz.prog w base spare held n 23 ((cs.drop 1).take (Tryz.prog.cellsOf 23)) = some x1)
    (h2 : DataW.trod enc Tryz.prog w base spare held n 33 ((cs.drop 2).take (Tryz.prog.cellsOf 33)) = some x2) : ∃ d : DoS, anyC d.c ∧ doR (PW.all w) d cs := by
  rw [cells_int] at h0
  rw [cells_u64] at h1
  rw [cells_conf] at h2
  obtain ⟨c0, c1, c2, c3, rfl⟩ := four hl
  obtain ⟨k, k0⟩ := open_i64 h0
  obtain ⟨r, k1⟩ := open_u64 h1
  simp only [List.drop_zero, List.take_succ_cons, List.take_zero, List.drop_succ_cons, List.cons.injEq, and_true] at k0 k1 h2
  obtain ⟨c, a1, a2⟩ := open_conf (cells := #[c2, c3]) (d := x2.1) (ps := x2.2) ⟨n, h2⟩
  exact ⟨⟨k, r, c⟩, a1, c2, c3, by rw [k0, k1], a2⟩
theorem open_do_of {fs : Array Field} (hu : Tryz.prog.underlying 35 = some (.struct fs)) (h3 : fs.size = 3) (g0 : ∃ f, fs[0]? = some f ∧ f.type = 3 ∧ f.offset = 0) (g1 : ∃ f, fs[1]? = some f ∧ f.type = 23 ∧ f.offset = 1) (g2 : ∃ f, fs[2]? = some f ∧ f.type = 33 ∧ f.offset = 2)
    {fuel : Nat} {cs : List Value} {x : DataW H × List MemPlace} (h : DataW.trod enc Tryz.prog w base spare held fuel 35 cs = some x) : ∃ d : DoS, anyC d.c ∧ doR (PW.all w) d cs := by
  obtain ⟨xs, n, _, _, hl, hlen, hf⟩ := DataW.trod_struct hu h
  rw [cells_do] at hl
  rw [h3] at hlen
  obtain ⟨x0, x1, x2, rfl⟩ := three hlen
  obtain ⟨f0, a0, b0, c0⟩ := g0
  obtain ⟨f1, a1, b1, c1⟩ := g1
  obtain ⟨f2, a2, b2, c2⟩ := g2
  have h0 := hf 0 f0 a0
  have h1 := hf 1 f1 a1
  have h2 := hf 2 f2 a2
  rw [b0, c0] at h0
  rw [b1, c1] at h1
  rw [b2, c2] at h2
  exact do_cells hl h0 h1 h2
theorem open_do {fuel : Nat} {cs : List Value} {x : DataW H × List MemPlace} (h : DataW.trod enc Tryz.prog w base spare held fuel 35 cs = some x) : ∃ d : DoS, anyC d.c ∧ doR (PW.all w) d cs :=
  open_do_of Tryz.underlying35 rfl ⟨_, rfl, rfl, rfl⟩ ⟨_, rfl, rfl, rfl⟩ ⟨_, rfl, rfl, rfl⟩ h
/-- A list of events that is handed in. -/
theorem open_dos {v : Value} {d : DataW H} {ps : List MemPlace} (h : DataW.Trod enc Tryz.prog w base spare held 22 v d ps) (hv : v.cells.toList = [v]) : ∃ l : List DoS, (∀ d ∈ l, anyC d.c) ∧ RL doR 4 (PW.all w) v l := by
  obtain ⟨fuel, h⟩ := h
  rw [hv] at h
  obtain ⟨xs, h1, _, h3⟩ := open_RL (R := doR) Tryz.underlying22 cells_do (fun n cs y hy => open_do hy) h
  exact ⟨xs, h1, h3⟩
end
end Go.Proofs.YtcgbcbdgjhnlaaaGreat
