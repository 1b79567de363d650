/- What a statement's arguments are, as they are handed in: lists of nodes, configurations. -/
import Derived.Test.YtcgbcbdgjhnlaaaVTop
import Derived.Test.YtcgbcbdgjhnlaaaVPH
import Derived.Deep.Slices
namespace Go.Proofs.Ytcgbcbdgjhnlaaa
open Go.ChangeShapes Go.WideShapes Go.ChangeAt Go.RowKit

section
variable {H : Type} {enc : TypeId × Value → H} {w : World} {base : Nat} {spare : Nat → Bool} {held : Bool}
theorem rd_all {a : Addr} {v : Value} (h : w.cell? a = some v) : Rd (PW.all w) a v := by
  refine ⟨?_, h⟩
  show a.block < w.heap.size
  rcases Nat.lt_or_ge a.block w.heap.size with h1 | h1
  · exact h1
  · unfold World.cell? at h
    rw [Array.getElem?_eq_none h1] at h
    cases h
/-- The elements of a slice that is handed in. -/
theorem open_RL {α : Type} {R : PW → α → List Value → Prop} {Q : α → Prop} {t e sz fuel : Nat} {v : Value} {x : DataW H × List MemPlace} (ht : Try.prog.underlying t = some (.slice e)) (hsz : Try.prog.cellsOf e = sz)
    (hel : ∀ (n : Nat) (cs : List Value) (y : DataW H × List MemPlace), DataW.trod enc Try.prog w base spare held n e cs = some y → ∃ z : α, Q z ∧ R (PW.all w) z cs)
    (h : DataW.trod enc Try.prog w base spare held fuel t [v] = some x) : ∃ xs : List α, (∀ z ∈ xs, Q z) ∧ xs.length ≤ maxLen ∧ RL R sz (PW.all w) v xs := by
  rcases Go.Deep.open_slice ht h with ⟨hv, _⟩ | ⟨a, len, cap, m, n, D, Pl, hv, hb, hl, hm, hmm, _, hx⟩
  · simp only [List.cons.injEq, and_true] at hv
    subst hv
    exact ⟨[], (fun z hz => by cases hz), Nat.zero_le _, RL.nil _ _ _⟩
  · simp only [List.cons.injEq, and_true] at hv
    subst hv
    have hlm : len ≤ m := by rw [hmm]; split <;> omega
    have key : ∀ k, k ≤ len → ∃ (xs : List α) (css : List (List Value)), xs.length = k ∧ (∀ z ∈ xs, Q z) ∧ LR R sz (PW.all w) xs css ∧ Rds (PW.all w) a css.flatten := by
      intro k
      induction k with
      | zero => intro _; exact ⟨[], [], rfl, fun z hz => (by cases hz), trivial, fun j v hj => (by simp at hj)⟩
      | succ k ih =>
        intro hk
        obtain ⟨xs, css, h1, h2, h3, h4⟩ := ih (by omega)
        obtain ⟨cs, c1, c2⟩ := hx k (by omega)
        rw [hsz] at c1
        obtain ⟨_, hlen, hcell⟩ := World.cells?_some c1
        obtain ⟨z, hq, hr⟩ := hel _ _ _ c2
        refine ⟨xs ++ [z], css ++ [cs], by simp [h1], fun y hy => ?_, LR.snoc hlen hr h3, fun j v hj => ?_⟩
        · rcases List.mem_append.1 hy with hy | hy
          · exact h2 y hy
          · rw [List.mem_singleton.1 hy]; exact hq
        · rw [List.flatten_append] at hj
          have hf := h3.len.2
          by_cases hjl : j < css.flatten.length
          · rw [List.getElem?_append_left hjl] at hj
            exact h4 j v hj
          · rw [List.getElem?_append_right (by omega)] at hj
            simp only [List.flatten_cons, List.flatten_nil, List.append_nil] at hj
            have hjs := (List.getElem?_eq_some_iff.1 hj).1
            have := hcell (j - css.flatten.length) (by omega)
            rw [hj, Addr.add_add] at this
            rw [hf, h1] at this hjl
            rw [show k * sz + (j - k * sz) = j by omega] at this
            exact rd_all this
    obtain ⟨xs, css, h1, h2, h3, h4⟩ := key len (Nat.le_refl _)
    refine ⟨xs, h2, by omega, css, h3, some a, cap, ?_, by omega, hm, fun _ => ⟨a, rfl, h4⟩⟩
    rw [h1]
theorem RP.of_RL {α : Type} {f : α → List Value} {sz : Nat} {W : PW} {v : Value} {xs : List α} (h : RL (fun _ z cs => cs = f z) sz W v xs) : RP f W v xs := by
  obtain ⟨css, h1, h2⟩ := h
  have e : ∀ (xs : List α) (css : List (List Value)), LR (fun _ z cs => cs = f z) sz W xs css → css = xs.map f := by
    intro xs
    induction xs with
    | nil => intro css h; cases css with
      | nil => rfl
      | cons c cs => exact h.elim
    | cons x xs ih => intro css h; cases css with
      | nil => exact h.elim
      | cons c cs => rw [List.map_cons, h.1.2, ih cs h.2]
  rw [e xs css h1] at h2
  exact h2
theorem open_str {fuel : Nat} {cs : List Value} {x : DataW H × List MemPlace} (h : DataW.trod enc Try.prog w base spare held fuel 9 cs = some x) : ∃ l : List UInt8, cs = [strV l] ∧ l.length ≤ 9223372036854775807 := by
  obtain ⟨s, h1, _, h3⟩ := DataW.trod_string Try.underlying9 h
  exact ⟨s.data.toList, h1, h3⟩
theorem open_i64 {fuel : Nat} {cs : List Value} {x : DataW H × List MemPlace} (h : DataW.trod enc Try.prog w base spare held fuel 3 cs = some x) : ∃ n : Int, cs = [.int .i64 n] := by
  obtain ⟨n, h1, _⟩ := DataW.trod_int Try.underlying3 h
  exact ⟨n, h1⟩
theorem cells_int : Try.prog.cellsOf 3 = 1 := by kernel_rfl
theorem cells_string : Try.prog.cellsOf 9 = 1 := by kernel_rfl
theorem cells_node : Try.prog.cellsOf 93 = 5 := by kernel_rfl
theorem five {α : Type} : ∀ {l : List α}, l.length = 5 → ∃ a b c d e, l = [a, b, c, d, e]
  | [a, b, c, d, e], _ => ⟨a, b, c, d, e, rfl⟩
  | [], h => by cases h
  | [_], h => by cases h
  | [_, _], h => by cases h
  | [_, _, _], h => by cases h
  | [_, _, _, _], h => by cases h
  | _ :: _ :: _ :: _ :: _ :: _ :: _, h => by simp at h
theorem node_cells {n : Nat} {cs : List Value} {x0 x1 x2 x3 x4 : DataW H × List MemPlace} (hl : cs.length = 5)
    (h0 : DataW.trod enc Try.prog w base spare held n 3 ((cs.drop 0).take (Try.prog.cellsOf 3)) = some x0) (h1 : DataW.trod enc Try.prog w base spare held n 9 ((cs.drop 1).take (Try.prog.cellsOf 9)) = some x1)
    (h2 : DataW.trod enc Try.prog w base spare held n 9 ((cs.drop 2).take (Try.prog.cellsOf 9)) = some x2) (h3 : DataW.trod enc Try.prog w base spare held n 3 ((cs.drop 3).take (Try.prog.cellsOf 3)) = some x3)
    (h4 : DataW.trod enc Try.prog w base spare held n 3 ((cs.drop 4).take (Try.prog.cellsOf 3)) = some x4) : ∃ n : NodeS, n.small ∧ cs = nodeC n := by
  rw [cells_int] at h0 h3 h4
  rw [cells_string] at h1 h2
  obtain ⟨k, k0⟩ := open_i64 h0
  obtain ⟨r, k1, s1⟩ := open_str h1
  obtain ⟨t, k2, s2⟩ := open_str h2
  obtain ⟨a, k3⟩ := open_i64 h3
  obtain ⟨b, k4⟩ := open_i64 h4
  obtain ⟨c0, c1, c2, c3, c4, rfl⟩ := five hl
  simp only [List.drop_zero, List.take_succ_cons, List.take_zero, List.drop_succ_cons, List.cons.injEq, and_true] at k0 k1 k2 k3 k4
  exact ⟨⟨k, r, t, a, b⟩, ⟨s1, s2⟩, by rw [k0, k1, k2, k3, k4]; rfl⟩
theorem open_node_of {fs : Array Field} (hu : Try.prog.underlying 93 = some (.struct fs)) (h5 : fs.size = 5) (g0 : ∃ f, fs[0]? = some f ∧ f.type = 3 ∧ f.offset = 0) (g1 : ∃ f, fs[1]? = some f ∧ f.type = 9 ∧ f.offset = 1) (g2 : ∃ f, fs[2]? = some f ∧ f.type = 9 ∧ f.offset = 2)
    (g3 : ∃ f, fs[3]? = some f ∧ f.type = 3 ∧ f.offset = 3) (g4 : ∃ f, fs[4]? = some f ∧ f.type = 3 ∧ f.offset = 4) {fuel : Nat} {cs : List Value} {x : DataW H × List MemPlace} (h : DataW.trod enc Try.prog w base spare held fuel 93 cs = some x) : ∃ n : NodeS, n.small ∧ cs = nodeC n := by
  obtain ⟨xs, n, _, _, hl, hlen, hf⟩ := DataW.trod_struct hu h
  rw [cells_node] at hl
  rw [h5] at hlen
  obtain ⟨x0, x1, x2, x3, x4, rfl⟩ := five hlen
  obtain ⟨f0, a0, b0, c0⟩ := g0
  obtain ⟨f1, a1, b1, c1⟩ := g1
  obtain ⟨f2, a2, b2, c2⟩ := g2
  obtain ⟨f3, a3, b3, c3⟩ := g3
  obtain ⟨f4, a4, b4, c4⟩ := g4
  have h0 := hf 0 f0 a0
  have h1 := hf 1 f1 a1
  have h2 := hf 2 f2 a2
  have h3 := hf 3 f3 a3
  have h4 := hf 4 f4 a4
  rw [b0, c0] at h0
  rw [b1, c1] at h1
  rw [b2, c2] at h2
  rw [b3, c3] at h3
  rw [b4, c4] at h4
  exact node_cells hl h0 h1 h2 h3 h4
theorem open_node {fuel : Nat} {cs : List Value} {x : DataW H × List MemPlace} (h : DataW.trod enc Try.prog w base spare held fuel 93 cs = some x) : ∃ n : NodeS, n.small ∧ cs = nodeC n :=
  open_node_of Try.underlying93 rfl ⟨_, rfl, rfl, rfl⟩ ⟨_, rfl, rfl, rfl⟩ ⟨_, rfl, rfl, rfl⟩ ⟨_, rfl, rfl, rfl⟩ ⟨_, rfl, rfl, rfl⟩ h
end
end Go.Proofs.Ytcgbcbdgjhnlaaa

