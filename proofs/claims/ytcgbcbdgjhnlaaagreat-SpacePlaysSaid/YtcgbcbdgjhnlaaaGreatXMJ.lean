/- What a statement's arguments are, as they are handed in: lists of nodes, configurations. -/
import Derived.Test.YtcgbcbdgjhnlaaaGreatXTop
import Derived.Test.YtcgbcbdgjhnlaaaGreatXPH
import Derived.Deep.Slices
import Derived.Test.YtcgbcbdgjhnlaaaGreatXFew
import Derived.Test.YtcgbcbdgjhnlaaaGreatXMI
import Derived.Test.YtcgbcbdgjhnlaaaGreatXMF
namespace Go.Proofs.YtcgbcbdgjhnlaaaGreat
open Go.ChangeShapes Go.WideShapes Go.ChangeAt Go.RowKit

section
variable {H : Type} {enc : TypeId × Value → H} {w : World} {base : Nat} {spare : Nat → Bool} {held : Bool}
theorem rd_all {a : Addr} {v : Value} (h : w.cell? a = some v) : Rd (PW.all w) a v := by
  refine ⟨?_, h⟩
  show a.block < w.heap.size
  rcases Nat.lt_or_ge a.block w.heap.size with h1 | h1
  · exact h1
  · unfold World.cell? at h
    rw [Array.getElem?_eq_none h1] at h
    cases h
/-- The elements of a slice that is handed in. -/
theorem open_RL {α : Type} {R : PW → α → List Value → Prop} {Q : α → Prop} {t e sz fuel : Nat} {v : Value} {x : DataW H × List MemPlace} (ht : Tryz.prog.underlying t = some (.slice e)) (hsz : Tryz.prog.cellsOf e = sz)
    (hel : ∀ (n : Nat) (cs : List Value) (y : DataW H × List MemPlace), DataW.trod enc Tryz.prog w base spare held n e cs = some y → ∃ z : α, Q z ∧ R (PW.all w) z cs)
    (h : DataW.trod enc Tryz.prog w base spare held fuel t [v] = some x) : ∃ xs : List α, (∀ z ∈ xs, Q z) ∧ xs.length ≤ maxLen ∧ RL R sz (PW.all w) v xs := by
  rcases Go.Deep.open_slice ht h with ⟨hv, _⟩ | ⟨a, len, cap, m, n, D, Pl, hv, hb, hl, hm, hmm, _, hx⟩
  · simp only [List.cons.injEq, and_true] at hv
    subst hv
    exact ⟨[], (fun z hz => by cases hz), Nat.zero_le _, RL.nil _ _ _⟩
  · simp only [List.cons.injEq, and_true] at hv
    subst hv
    have hlm : len ≤ m := by rw [hmm]; split <;> omega
    have key : ∀ k, k ≤ len → ∃ (xs : List α) (css : List (List Value)), xs.length = k ∧ (∀ z ∈ xs, Q z) ∧ LR R sz (PW.all w) xs css ∧ Rds (PW.all w) a css.flatten := by
      intro k
      induction k with
      | zero => intro _; exact ⟨[], [], rfl, fun z hz => (by cases hz), trivial, fun j v hj => (by simp at hj)⟩
      | succ k ih =>
        intro hk
        obtain ⟨xs, css, h1, h2, h3, h4⟩ := ih (by omega)
        obtain ⟨cs, c1, c2⟩ := hx k (by omega)
        rw [hsz] at c1
        obtain ⟨_, hlen, hcell⟩ := World.cells?_some c1
        obtain ⟨z, hq, hr⟩ := hel _ _ _ c2
        refine ⟨xs ++ [z], css ++ [cs], by simp [h1], fun y hy => ?_, LR.snoc hlen hr h3, fun j v hj => ?_⟩
        · rcases List.mem_append.1 hy with hy | hy
          · exact h2 y hy
          · rw [List.mem_singleton.1 hy]; exact hq
        · rw [List.flatten_append] at hj
          have hf := h3.len.2
          by_cases hjl : j < css.flatten.length
          · rw [List.getElem?_append_left hjl] at hj
            exact h4 j v hj
          · rw [List.getElem?_append_right (by omega)] at hj
            simp only [List.flatten_cons, List.flatten_nil, List.append_nil] at hj
            have hjs := (List.getElem?_eq_some_iff.1 hj).1
            have := hcell (j - css.flatten.length) (by omega)
            rw [hj, Addr.add_add] at this
            rw [hf, h1] at this hjl
            rw [show k * sz + (j - k * sz) = j by omega] at this
            exact rd_all this
    obtain ⟨xs, css, h1, h2, h3, h4⟩ := key len (Nat.le_refl _)
    refine ⟨xs, h2, by omega, css, h3, some a, cap, ?_, by omega, hm, fun _ => ⟨a, rfl, h4⟩⟩
    rw [h1]
theorem RP.of_RL {α : Type} {f : α → List Value} {sz : Nat} {W : PW} {v : Value} {xs : List α} (h : RL (fun _ z cs => cs = f z) sz W v xs) : RP f W v xs := by
  obtain ⟨css, h1, h2⟩ := h
  have e : ∀ (xs : List α) (css : List (List Value)), LR (fun _ z cs => cs = f z) sz W xs css → css = xs.map f := by
    intro xs
    induction xs with
    | nil => intro css h; cases css with
      | nil => rfl
      | cons c cs => exact h.elim
    | cons x xs ih => intro css h; cases css with
      | nil => exact h.elim
      | cons c cs => rw [List.map_cons, h.1.2, ih cs h.2]
  rw [e xs css h1] at h2
  exact h2
theorem open_str {fuel : Nat} {cs : List Value} {x : DataW H × List MemPlace} (h : DataW.trod enc Tryz.prog w base spare held fuel 9 cs = some x) : ∃ l : List UInt8, cs = [strV l] ∧ l.length ≤ 9223372036854775807 := by
  obtain ⟨s, h1, _, h3⟩ := DataW.trod_string Tryz.underlying9 h
  exact ⟨s.data.toList, h1, h3⟩
theorem open_i64 {fuel : Nat} {cs : List Value} {x : DataW H × List MemPlace} (h : DataW.trod enc Tryz.prog w base spare held fuel 3 cs = some x) : ∃ n : Int, cs = [.int .i64 n] := by
  obtain ⟨n, h1, _⟩ := DataW.trod_int Tryz.underlying3 h
  exact ⟨n, h1⟩
theorem cells_int : Tryz.prog.cellsOf 3 = 1 := by kernel_rfl
theorem cells_string : Tryz.prog.cellsOf 9 = 1 := by kernel_rfl
theorem cells_node : Tryz.prog.cellsOf 100 = 5 := by kernel_rfl
theorem five {α : Type} : ∀ {l : List α}, l.length = 5 → ∃ a b c d e, l = [a, b, c, d, e]
  | [a, b, c, d, e], _ => ⟨a, b, c, d, e, rfl⟩
  | [], h => by cases h
  | [_], h => by cases h
  | [_, _], h => by cases h
  | [_, _, _], h => by cases h
  | [_, _, _, _], h => by cases h
  | _ :: _ :: _ :: _ :: _ :: _ :: _, h => by simp at h
theorem node_cells {n : Nat} {cs : List Value} {x0 x1 x2 x3 x4 : DataW H × List MemPlace} (hl : cs.length = 5)
    (h0 : DataW.trod enc Tryz.prog w base spare held n 3 ((cs.drop 0).take (Tryz.prog.cellsOf 3)) = some x0) (h1 : DataW.trod enc Tryz.prog w base spare held n 9 ((cs.drop 1).take (Tryz.prog.cellsOf 9)) = some x1)
    (h2 : DataW.trod enc Tryz.prog w base spare held n 9 ((cs.drop 2).take (Tryz.prog.cellsOf 9)) = some x2) (h3 : DataW.trod enc Tryz.prog w base spare held n 3 ((cs.drop 3).take (Tryz.prog.cellsOf 3)) = some x3)
    (h4 : DataW.trod enc Tryz.prog w base spare held n 3 ((cs.drop 4).take (Tryz.prog.cellsOf 3)) = some x4) : ∃ n : NodeS, n.small ∧ cs = nodeC n := by
  rw [cells_int] at h0 h3 h4
  rw [cells_string] at h1 h2
  obtain ⟨k, k0⟩ := open_i64 h0
  obtain ⟨r, k1, s1⟩ := open_str h1
  obtain ⟨t, k2, s2⟩ := open_str h2
  obtain ⟨a, k3⟩ := open_i64 h3
  obtain ⟨b, k4⟩ := open_i64 h4
  obtain ⟨c0, c1, c2, c3, c4, rfl⟩ := five hl
  simp only [List.drop_zero, List.take_succ_cons, List.take_zero, List.drop_succ_cons, List.cons.injEq, and_true] at k0 k1 k2 k3 k4
  exact ⟨⟨k, r, t, a, b⟩, ⟨s1, s2⟩, by rw [k0, k1, k2, k3, k4]; rfl⟩
theorem open_node_of {fs : Array Field} (hu : Tryz.prog.underlying 100 = some (.struct fs)) (h5 : fs.size = 5) (g0 : ∃ f, fs[0]? = some f ∧ f.type = 3 ∧ f.offset = 0) (g1 : ∃ f, fs[1]? = some f ∧ f.type = 9 ∧ f.offset = 1) (g2 : ∃ f, fs[2]? = some f ∧ f.type = 9 ∧ f.offset = 2)
    (g3 : ∃ f, fs[3]? = some f ∧ f.type = 3 ∧ f.offset = 3) (g4 : ∃ f, fs[4]? = some f ∧ f.type = 3 ∧ f.offset = 4) {fuel : Nat} {cs : List Value} {x : DataW H × List MemPlace} (h : DataW.trod enc Tryz.prog w base spare held fuel 100 cs = some x) : ∃ n : NodeS, n.small ∧ cs = nodeC n := by
  obtain ⟨xs, n, _, _, hl, hlen, hf⟩ := DataW.trod_struct hu h
  rw [cells_node] at hl
  rw [h5] at hlen
  obtain ⟨x0, x1, x2, x3, x4, rfl⟩ := five hlen
  obtain ⟨f0, a0, b0, c0⟩ := g0
  obtain ⟨f1, a1, b1, c1⟩ := g1
  obtain ⟨f2, a2, b2, c2⟩ := g2
  obtain ⟨f3, a3, b3, c3⟩ := g3
  obtain ⟨f4, a4, b4, c4⟩ := g4
  have h0 := hf 0 f0 a0
  have h1 := hf 1 f1 a1
  have h2 := hf 2 f2 a2
  have h3 := hf 3 f3 a3
  have h4 := hf 4 f4 a4
  rw [b0, c0] at h0
  rw [b1, c1] at h1
  rw [b2, c2] at h2
  rw [b3, c3] at h3
  rw [b4, c4] at h4
  exact node_cells hl h0 h1 h2 h3 h4
theorem open_node {fuel : Nat} {cs : List Value} {x : DataW H × List MemPlace} (h : DataW.trod enc Tryz.prog w base spare held fuel 100 cs = some x) : ∃ n : NodeS, n.small ∧ cs = nodeC n :=
  open_node_of Tryz.underlying100 rfl ⟨_, rfl, rfl, rfl⟩ ⟨_, rfl, rfl, rfl⟩ ⟨_, rfl, rfl, rfl⟩ ⟨_, rfl, rfl, rfl⟩ ⟨_, rfl, rfl, rfl⟩ h
end
end Go.Proofs.YtcgbcbdgjhnlaaaGreat

/- What a statement's arguments are, as they are handed in: configurations. -/
namespace Go.Proofs.YtcgbcbdgjhnlaaaGreat
open Go.ChangeShapes Go.WideShapes Go.ChangeAt Go.RowKit

def anyR (r : RelS) : Prop := r.name.length ≤ 9223372036854775807 ∧ (∀ t ∈ r.types, smT t) ∧ ∀ n ∈ r.nodes, n.small
def anyS (s : SpaceS) : Prop := s.name.length ≤ 9223372036854775807 ∧ ∀ r ∈ s.rels, anyR r
def anyC (c : ConfS) : Prop := (∀ s ∈ c.spaces, anyS s) ∧ ∀ s ∈ c.scopes, smS s
theorem few_ok {c : ConfS} (h : anyC c) : okCB (fewC c) := by
  refine ⟨?_, ?_, fun s hs => ?_, fun s hs => h.2 s (List.mem_of_mem_take hs)⟩
  · unfold fewC; rw [List.length_map, List.length_take]; omega
  · unfold fewC; rw [List.length_take]; omega
  · obtain ⟨s0, hs0, rfl⟩ := List.mem_map.1 hs
    have h0 := h.1 s0 (List.mem_of_mem_take hs0)
    refine ⟨?_, ?_, fun r hr => ?_⟩
    · have := h0.1
      unfold fewSp; rw [List.length_take]; omega
    · unfold fewSp; rw [List.length_map, List.length_take]; omega
    · obtain ⟨r0, hr0, rfl⟩ := List.mem_map.1 hr
      have h1 := h0.2 r0 (List.mem_of_mem_take hr0)
      refine ⟨h1.1, fun t ht => h1.2.1 t (List.mem_of_mem_take ht), ?_, ?_, fun n hn => h1.2.2 n (List.mem_of_mem_take hn)⟩
      · unfold fewRel; rw [List.length_take]; omega
      · unfold fewRel; rw [List.length_take]; omega

section
variable {H : Type} {enc : TypeId × Value → H} {w : World} {base : Nat} {spare : Nat → Bool} {held : Bool}
theorem cells_type : Tryz.prog.cellsOf 97 = 2 := by kernel_rfl
theorem cells_rel : Tryz.prog.cellsOf 74 = 3 := by kernel_rfl
theorem cells_space : Tryz.prog.cellsOf 69 = 2 := by kernel_rfl
theorem cells_ref : Tryz.prog.cellsOf 76 = 2 := by kernel_rfl
theorem cells_scope : Tryz.prog.cellsOf 78 = 4 := by kernel_rfl
theorem cells_conf : Tryz.prog.cellsOf 33 = 2 := by kernel_rfl
theorem cells_types : Tryz.prog.cellsOf 71 = 1 := by kernel_rfl
theorem cells_nodes : Tryz.prog.cellsOf 72 = 1 := by kernel_rfl
theorem cells_rels : Tryz.prog.cellsOf 67 = 1 := by kernel_rfl
theorem cells_spaces : Tryz.prog.cellsOf 30 = 1 := by kernel_rfl
theorem cells_scopes : Tryz.prog.cellsOf 31 = 1 := by kernel_rfl
theorem two {α : Type} : ∀ {l : List α}, l.length = 2 → ∃ a b, l = [a, b]
  | [a, b], _ => ⟨a, b, rfl⟩
  | [], h => by cases h
  | [_], h => by cases h
  | _ :: _ :: _ :: _, h => by simp at h
theorem three {α : Type} : ∀ {l : List α}, l.length = 3 → ∃ a b c, l = [a, b, c]
  | [a, b, c], _ => ⟨a, b, c, rfl⟩
  | [], h => by cases h
  | [_], h => by cases h
  | [_, _], h => by cases h
  | _ :: _ :: _ :: _ :: _, h => by simp at h
theorem four {α : Type} : ∀ {l : List α}, l.length = 4 → ∃ a b c d, l = [a, b, c, d]
  | [a, b, c, d], _ => ⟨a, b, c, d, rfl⟩
  | [], h => by cases h
  | [_], h => by cases h
  | [_, _], h => by cases h
  | [_, _, _], h => by cases h
  | _ :: _ :: _ :: _ :: _ :: _, h => by simp at h
theorem strs_two {fuel : Nat} {cs : List Value} {x y : DataW H × List MemPlace} (hl : cs.length = 2) (h0 : DataW.trod enc Tryz.prog w base spare held fuel 9 ((cs.drop 0).take (Tryz.prog.cellsOf 9)) = some x)
    (h1 : DataW.trod enc Tryz.prog w base spare held fuel 9 ((cs.drop 1).take (Tryz.prog.cellsOf 9)) = some y) : ∃ a b : List UInt8, cs = [strV a, strV b] ∧ a.length ≤ 9223372036854775807 ∧ b.length ≤ 9223372036854775807 := by
  rw [cells_string] at h0 h1
  obtain ⟨c0, c1, rfl⟩ := two hl
  obtain ⟨a, k0, s0⟩ := open_str h0
  obtain ⟨b, k1, s1⟩ := open_str h1
  simp only [List.drop_zero, List.take_succ_cons, List.take_zero, List.drop_succ_cons, List.cons.injEq, and_true] at k0 k1
  exact ⟨a, b, by rw [k0, k1], s0, s1⟩
theorem open_type {fuel : Nat} {cs : List Value} {x : DataW H × List MemPlace} (h : DataW.trod enc Tryz.prog w base spare held fuel 97 cs = some x) : ∃ t : TypS, smT t ∧ cs = typC t := by
  obtain ⟨y0, y1, n, _, hl, h0, h1⟩ := trod_struct2 Tryz.underlying97 h
  obtain ⟨a, b, rfl, s0, s1⟩ := strs_two (hl.trans cells_type) h0 h1
  exact ⟨⟨a, b⟩, ⟨s0, s1⟩, rfl⟩
theorem open_ref {fuel : Nat} {cs : List Value} {x : DataW H × List MemPlace} (h : DataW.trod enc Tryz.prog w base spare held fuel 76 cs = some x) : ∃ r : RefS, r.fits ∧ cs = refC r := by
  obtain ⟨y0, y1, n, _, hl, h0, h1⟩ := trod_struct2 Tryz.underlying76 h
  obtain ⟨a, b, rfl, s0, s1⟩ := strs_two (hl.trans cells_ref) h0 h1
  exact ⟨⟨a, b⟩, ⟨s0, s1⟩, rfl⟩
theorem rel_cells {n : Nat} {cs : List Value} {x0 x1 x2 : DataW H × List MemPlace} (hl : cs.length = 3)
    (h0 : DataW.trod enc Tryz.prog w base spare held n 9 ((cs.drop 0).take (Tryz.prog.cellsOf 9)) = some x0) (h1 : DataW.trod enc Tryz.prog w base spare held n 71 ((cs.drop 1).take (Tryz.prog.cellsOf 71)) = some x1)
    (h2 : DataW.trod enc Tryz.prog w base spare held n 72 ((cs.drop 2).take (Tryz.prog.cellsOf 72)) = some x2) : ∃ r : RelS, anyR r ∧ RelR (PW.all w) r cs := by
  rw [cells_string] at h0
  rw [cells_types] at h1
  rw [cells_nodes] at h2
  obtain ⟨c0, c1, c2, rfl⟩ := three hl
  obtain ⟨a, k0, s0⟩ := open_str h0
  simp only [List.drop_zero, List.take_succ_cons, List.take_zero, List.drop_succ_cons, List.cons.injEq, and_true] at k0 h1 h2
  obtain ⟨ts, g1, _, g3⟩ := open_RL (R := fun _ z cs => cs = typC z) Tryz.underlying71 cells_type (fun n cs y hy => open_type hy) h1
  obtain ⟨ns, f1, _, f3⟩ := open_RL (R := fun _ z cs => cs = nodeC z) Tryz.underlying72 cells_node (fun n cs y hy => open_node hy) h2
  exact ⟨⟨a, ts, ns⟩, ⟨s0, g1, f1⟩, c1, c2, by rw [k0], RP.of_RL g3, RP.of_RL f3⟩
theorem open_rel_of {fs : Array Field} (hu : Tryz.prog.underlying 74 = some (.struct fs)) (h3 : fs.size = 3) (g0 : ∃ f, fs[0]? = some f ∧ f.type = 9 ∧ f.offset = 0) (g1 : ∃ f, fs[1]? = some f ∧ f.type = 71 ∧ f.offset = 1) (g2 : ∃ f, fs[2]? = some f ∧ f.type = 72 ∧ f.offset = 2)
    {fuel : Nat} {cs : List Value} {x : DataW H × List MemPlace} (h : DataW.trod enc Tryz.prog w base spare held fuel 74 cs = some x) : ∃ r : RelS, anyR r ∧ RelR (PW.all w) r cs := by
  obtain ⟨xs, n, _, _, hl, hlen, hf⟩ := DataW.trod_struct hu h
  rw [cells_rel] at hl
  rw [h3] at hlen
  obtain ⟨x0, x1, x2, rfl⟩ := three hlen
  obtain ⟨f0, a0, b0, c0⟩ := g0
  obtain ⟨f1, a1, b1, c1⟩ := g1
  obtain ⟨f2, a2, b2, c2⟩ := g2
  have h0 := hf 0 f0 a0
  have h1 := hf 1 f1 a1
  have h2 := hf 2 f2 a2
  rw [b0, c0] at h0
  rw [b1, c1] at h1
  rw [b2, c2] at h2
  exact rel_cells hl h0 h1 h2
theorem open_rel {fuel : Nat} {cs : List Value} {x : DataW H × List MemPlace} (h : DataW.trod enc Tryz.prog w base spare held fuel 74 cs = some x) : ∃ r : RelS, anyR r ∧ RelR (PW.all w) r cs :=
  open_rel_of Tryz.underlying74 rfl ⟨_, rfl, rfl, rfl⟩ ⟨_, rfl, rfl, rfl⟩ ⟨_, rfl, rfl, rfl⟩ h
theorem open_space {fuel : Nat} {cs : List Value} {x : DataW H × List MemPlace} (h : DataW.trod enc Tryz.prog w base spare held fuel 69 cs = some x) : ∃ s : SpaceS, anyS s ∧ SpR (PW.all w) s cs := by
  obtain ⟨y0, y1, n, _, hl, h0, h1⟩ := trod_struct2 Tryz.underlying69 h
  obtain ⟨c0, c1, rfl⟩ := two (hl.trans cells_space)
  have h0 : DataW.trod enc Tryz.prog w base spare held n 9 (([c0, c1].drop 0).take (Tryz.prog.cellsOf 9)) = some y0 := h0
  have h1 : DataW.trod enc Tryz.prog w base spare held n 67 (([c0, c1].drop 1).take (Tryz.prog.cellsOf 67)) = some y1 := h1
  rw [cells_string] at h0
  rw [cells_rels] at h1
  obtain ⟨a, k0, s0⟩ := open_str h0
  simp only [List.drop_zero, List.take_succ_cons, List.take_zero, List.drop_succ_cons, List.cons.injEq, and_true] at k0 h1
  obtain ⟨rs, g1, _, g3⟩ := open_RL (R := RelR) Tryz.underlying67 cells_rel (fun n cs y hy => open_rel hy) h1
  exact ⟨⟨a, rs⟩, ⟨s0, g1⟩, c1, by rw [k0], g3⟩
theorem scope_cells {n : Nat} {cs : List Value} {x0 x1 x2 : DataW H × List MemPlace} (hl : cs.length = 4)
    (h0 : DataW.trod enc Tryz.prog w base spare held n 9 ((cs.drop 0).take (Tryz.prog.cellsOf 9)) = some x0) (h1 : DataW.trod enc Tryz.prog w base spare held n 76 ((cs.drop 1).take (Tryz.prog.cellsOf 76)) = some x1)
    (h2 : DataW.trod enc Tryz.prog w base spare held n 9 ((cs.drop 3).take (Tryz.prog.cellsOf 9)) = some x2) : ∃ s : ScopeS, smS s ∧ cs = scopeC s := by
  rw [cells_string] at h0 h2
  rw [cells_ref] at h1
  obtain ⟨c0, c1, c2, c3, rfl⟩ := four hl
  obtain ⟨a, k0, s0⟩ := open_str h0
  obtain ⟨b, k2, s2⟩ := open_str h2
  obtain ⟨r, s1, k1⟩ := open_ref h1
  simp only [refC, List.drop_zero, List.take_succ_cons, List.take_zero, List.drop_succ_cons, List.cons.injEq, and_true] at k0 k1 k2
  exact ⟨⟨a, r, b⟩, ⟨s0, s1, s2⟩, by rw [k0, k1.1, k1.2, k2]; rfl⟩
theorem open_scope_of {fs : Array Field} (hu : Tryz.prog.underlying 78 = some (.struct fs)) (h3 : fs.size = 3) (g0 : ∃ f, fs[0]? = some f ∧ f.type = 9 ∧ f.offset = 0) (g1 : ∃ f, fs[1]? = some f ∧ f.type = 76 ∧ f.offset = 1) (g2 : ∃ f, fs[2]? = some f ∧ f.type = 9 ∧ f.offset = 3)
    {fuel : Nat} {cs : List Value} {x : DataW H × List MemPlace} (h : DataW.trod enc Tryz.prog w base spare held fuel 78 cs = some x) : ∃ s : ScopeS, smS s ∧ cs = scopeC s := by
  obtain ⟨xs, n, _, _, hl, hlen, hf⟩ := DataW.trod_struct hu h
  rw [cells_scope] at hl
  rw [h3] at hlen
  obtain ⟨x0, x1, x2, rfl⟩ := three hlen
  obtain ⟨f0, a0, b0, c0⟩ := g0
  obtain ⟨f1, a1, b1, c1⟩ := g1
  obtain ⟨f2, a2, b2, c2⟩ := g2
  have h0 := hf 0 f0 a0
  have h1 := hf 1 f1 a1
  have h2 := hf 2 f2 a2
  rw [b0, c0] at h0
  rw [b1, c1] at h1
  rw [b2, c2] at h2
  exact scope_cells hl h0 h1 h2
theorem open_scope {fuel : Nat} {cs : List Value} {x : DataW H × List MemPlace} (h : DataW.trod enc Tryz.prog w base spare held fuel 78 cs = some x) : ∃ s : ScopeS, smS s ∧ cs = scopeC s :=
  open_scope_of Tryz.underlying78 rfl ⟨_, rfl, rfl, rfl⟩ ⟨_, rfl, rfl, rfl⟩ ⟨_, rfl, rfl, rfl⟩ h
/-- A configuration that is handed in. -/
theorem open_conf {cells : Array Value} {d : DataW H} {ps : List MemPlace} (h : DataW.Trod enc Tryz.prog w base spare held 33 (.agg cells) d ps) : ∃ c : ConfS, anyC c ∧ ConfR (PW.all w) c cells.toList := by
  obtain ⟨fuel, h⟩ := h
  have h : DataW.trod enc Tryz.prog w base spare held fuel 33 cells.toList = some (d, ps) := h
  obtain ⟨y0, y1, n, _, hl, h0, h1⟩ := trod_struct2 Tryz.underlying33 h
  obtain ⟨c0, c1, e⟩ := two (hl.trans cells_conf)
  rw [e] at h0 h1 ⊢
  have h0 : DataW.trod enc Tryz.prog w base spare held n 30 (([c0, c1].drop 0).take (Tryz.prog.cellsOf 30)) = some y0 := h0
  have h1 : DataW.trod enc Tryz.prog w base spare held n 31 (([c0, c1].drop 1).take (Tryz.prog.cellsOf 31)) = some y1 := h1
  rw [cells_spaces] at h0
  rw [cells_scopes] at h1
  simp only [List.drop_zero, List.take_succ_cons, List.take_zero, List.drop_succ_cons] at h0 h1
  obtain ⟨ss, g1, _, g3⟩ := open_RL (R := SpR) Tryz.underlying30 cells_space (fun n cs y hy => open_space hy) h0
  obtain ⟨ks, f1, _, f3⟩ := open_RL (R := fun _ z cs => cs = scopeC z) Tryz.underlying31 cells_scope (fun n cs y hy => open_scope hy) h1
  exact ⟨⟨ss, ks⟩, ⟨g1, f1⟩, c0, c1, rfl, g3, RP.of_RL f3⟩
end
end Go.Proofs.YtcgbcbdgjhnlaaaGreat

/- Layer 19 (space): what the law's events are, and (plain) that what was in force stays in force. No statement is proved here. -/
namespace Go.Proofs.YtcgbcbdgjhnlaaaGreat
open Go.RowKit

theorem layN_in : ∀ (t : Tr) (m : Nat), ∀ n ∈ layN m t, 4 ≤ n.kind → 0 ≤ n.a ∧ n.a < (m + t.size : Nat) ∧ 0 ≤ n.b ∧ n.b < (m + t.size : Nat)
  | .this, m, n, hn, hk => by
    simp only [layN, List.mem_singleton] at hn
    subst hn; exact absurd hk (by decide)
  | .rel w, m, n, hn, hk => by
    simp only [layN, List.mem_singleton] at hn
    subst hn; exact absurd hk (by decide : ¬ (4 : Int) ≤ 2)
  | .arrow w v, m, n, hn, hk => by
    simp only [layN, List.mem_singleton] at hn
    subst hn; exact absurd hk (by decide : ¬ (4 : Int) ≤ 3)
  | .op k a b, m, n, hn, hk => by
    have ha := a.size_pos
    have hb := b.size_pos
    simp only [layN, List.mem_append, List.mem_singleton] at hn
    simp only [Tr.size]
    rcases hn with (hn | hn) | hn
    · have := layN_in a m n hn hk; omega
    · have := layN_in b (m + a.size) n hn hk; omega
    · subst hn; dsimp only; omega
theorem few_bd (c : ConfS) : BdC (fewC c) := by
  unfold fewC
  refine ⟨by dsimp only; rw [List.length_map, List.length_take]; omega, by dsimp only; rw [List.length_take]; omega, fun s hs => ?_⟩
  obtain ⟨s0, _, rfl⟩ := List.mem_map.1 hs
  unfold fewSp
  refine ⟨by dsimp only; rw [List.length_map, List.length_take]; omega, fun r hr => ?_⟩
  obtain ⟨r0, _, rfl⟩ := List.mem_map.1 hr
  unfold fewRel
  exact ⟨by dsimp only; rw [List.length_take]; omega, by dsimp only; rw [List.length_take]; omega⟩
theorem few_smc {c : ConfS} (h : anyC c) (hr : rightN (fewC c) = true) : SmC (fewC c) := by
  have hbd := few_bd c
  have hok := few_ok h
  unfold rightN at hr
  simp only [Bool.and_eq_true, List.all_eq_true] at hr
  obtain ⟨_, hsp, _⟩ := hr
  refine ⟨fun s hs => ⟨(hok.sp s hs).name, fun r hrm => ?_⟩, hok.sc, hbd.1, fun s hs => (hbd.2.2 s hs).1, hbd.2.1⟩
  have hr2 := (hok.sp s hs).rels r hrm
  obtain ⟨b1, b2⟩ := (hbd.2.2 s hs).2 r hrm
  refine ⟨hr2.name, b1, b2, hr2.types, fun n hn => ⟨?_, fun hk => ?_⟩⟩
  · have hs0 := hs
    unfold fewC at hs0
    obtain ⟨s0, hs1, rfl⟩ := List.mem_map.1 hs0
    unfold fewSp at hrm
    obtain ⟨r0, hr1, rfl⟩ := List.mem_map.1 hrm
    unfold fewRel at hn
    exact ((h.1 s0 (List.mem_of_mem_take hs1)).2 r0 (List.mem_of_mem_take hr1)).2.2 n (List.mem_of_mem_take hn)
  · have h1 := hsp s hs
    unfold spOK at h1
    simp only [Bool.and_eq_true, List.all_eq_true] at h1
    have h2 := h1.2 r hrm
    unfold relOK at h2
    simp only [Bool.and_eq_true, Bool.not_eq_true', decide_eq_false_iff_not] at h2
    obtain ⟨t, _, ht, _⟩ := deep_lay h2.2.1
    rw [ht] at hn ⊢
    have := layN_in t 0 n hn hk
    rw [layN_len]
    omega

structure DoS where
  kind : Int
  rev : Int
  c : ConfS
def doR (W : PW) (d : DoS) (cs : List Value) : Prop := ∃ sv kv, cs = [.int .i64 d.kind, .int .u64 d.rev, sv, kv] ∧ ConfR W d.c [sv, kv]
theorem doR.mono (W W' : PW) (d : DoS) (cs : List Value) (l : W.Le W') (h : doR W d cs) : doR W' d cs := let ⟨sv, kv, e, h⟩ := h; ⟨sv, kv, e, ConfR.mono _ _ _ _ l h⟩
def fewD (n : Nat) (l : List DoS) : List DoS := (l.take n).map fun d => ⟨d.kind, d.rev, fewC d.c⟩
theorem doR.form {W : PW} {d : DoS} {cs : List Value} (h : doR W d cs) : ∃ a1 n1 c1 a2 n2 c2, cs = [.int .i64 d.kind, .int .u64 d.rev, .slice a1 n1 c1, .slice a2 n2 c2] ∧ ConfR W d.c [.slice a1 n1 c1, .slice a2 n2 c2] := by
  obtain ⟨sv, kv, rfl, hC⟩ := h
  obtain ⟨a1, c1, a2, c2, e⟩ := hC.form
  simp only [List.cons.injEq, and_true] at e
  obtain ⟨rfl, rfl⟩ := e
  exact ⟨_, _, _, _, _, _, rfl, hC⟩

def HOK (xs : List EntS) : Prop := xs.length ≤ 16 ∧ ∀ e ∈ xs, BdC e.c ∧ okCB e.c
theorem collS_ok (rev : Int) : ∀ (xs : List EntS) (g : Int), (collS rev xs g).1.length ≤ xs.length ∧ (∀ e ∈ (collS rev xs g).1, e ∈ xs) ∧ g ≤ (collS rev xs g).2 ∧ (collS rev xs g).2 ≤ g + xs.length
  | [], g => ⟨Nat.le_refl _, fun e h => h, Int.le_refl _, by show g ≤ g + (0 : Nat); omega⟩
  | [a], g => ⟨Nat.le_refl _, fun e h => h, Int.le_refl _, by show g ≤ g + (1 : Nat); omega⟩
  | a :: b :: r, g => by
    by_cases h : b.rev ≤ rev
    · have e1 : collS rev (a :: b :: r) g = collS rev (b :: r) (g + 1) := if_pos h
      rw [e1]
      obtain ⟨h1, h2, h3, h4⟩ := collS_ok rev (b :: r) (g + 1)
      simp only [List.length_cons] at h1 h4 ⊢
      exact ⟨by omega, fun e he => List.mem_cons_of_mem _ (h2 e he), by omega, by omega⟩
    · have e1 : collS rev (a :: b :: r) g = (a :: b :: r, g) := if_neg h
      rw [e1]
      exact ⟨Nat.le_refl _, fun e h => h, Int.le_refl _, by dsimp only; omega⟩
end Go.Proofs.YtcgbcbdgjhnlaaaGreat

/- Layer 19 (space), walked: the law's events are cut; SpaceKept. -/
namespace Go.Proofs.YtcgbcbdgjhnlaaaGreat
open Go.RowKit

def doO (A : Option Addr) (n c : Nat) (css : List (List Value)) : Own := ⟨.slice A n c, 35, 4, n, css.flatten⟩
structure DoSt where
  i : Nat
  A : Option Addr
  c : Nat
  css : List (List Value)
set_option maxHeartbeats 8000000 in
theorem fewd_x (n : Nat) (hn : n ≤ 100) (l : List DoS) (u : Value) (W : PW) (h : RL doR 4 W u l) : CallsX Tryz.prog 5 ⟨[u, .int .i64 n]⟩ [] W fun v W' => RL doR 4 W' v (fewD n l) := by
  obtain ⟨a0, c0, rfl, _, _⟩ := h.form
  have hmax := maxLen_big
  refine pureNX hmix Tryz.func5 r5 (by kernel_rfl) [nilO 35 4] rfl [.slice a0 l.length c0, .int .i64 n] rfl ?_
  refine ⟨DoSt, fun t => [(5, .v (.slice t.A t.i t.c)), (6, .v (.int .i64 t.i))], fun _ => [], fun t => [doO t.A t.i t.c t.css], fun t W' => t.i ≤ n ∧ t.i ≤ l.length ∧ LR doR 4 W' (fewD t.i l) t.css, fun t => n - t.i, ⟨0, none, 0, []⟩,
    all_sl ⟨rfl, rfl, trivial⟩, rfl, ole_refl _, ⟨Nat.zero_le _, Nat.zero_le _, trivial⟩, loopOK (fun _ => ⟨⟨trivial, rfl⟩, ⟨trivial, rfl⟩, trivial⟩) (fun _ => rfl) (fun _ => rfl), ?_⟩
  rintro ⟨i, A, c, css⟩ W1 l1 ⟨hin, hil, hL⟩ fr
  dsimp only at hin hil hL
  have out : ¬ (i < n ∧ i < l.length) → ∀ W', W1.Le W' → SlRead W' (.slice A i c) i css.flatten → RL doR 4 W' (.slice A i c) (fewD n l) := fun hno W' l2 hr => by
    obtain ⟨e1, e2⟩ := take_step hno hin hil
    have e3 : fewD i l = fewD n l := by unfold fewD; rw [e1]
    have e4 : (fewD n l).length = i := by unfold fewD; rw [List.length_map]; exact e2.symm
    rw [e3] at hL
    exact ⟨css, hL.mono doR.mono l2, by rw [e4]; exact hr⟩
  refine ⟨rfl, ?_⟩
  apply br_split
  · intro h1
    have h1 : (i : Int) < l.length := h1
    refine ⟨rfl, ?_⟩
    apply br_split
    · intro h2
      have h2 : (i : Int) < n := h2
      obtain ⟨pc, rfl, d, cs, hx, hcl, hD, hall, hrds⟩ := h.at doR.mono l1 (j := i) ⟨by omega, h1⟩
      have hx : l[i]? = some d := hx
      obtain ⟨a1, n1, c1, a2, n2, c2, rfl, hC⟩ := hD.form
      obtain ⟨dk, hdk⟩ : ∃ k, d.kind = k := ⟨_, rfl⟩
      obtain ⟨dr, hdr⟩ : ∃ k, d.rev = k := ⟨_, rfl⟩
      rw [hdk, hdr] at hall hrds
      have hsub : Rds W1 ((pc.add ((i : Int).toNat * 4)).add 2) [.slice a1 n1 c1, .slice a2 n2 c2] := hrds.drop 2
      refine ⟨⟨by omega, h1⟩, pc, rfl, .int .i64 dk, (hall 0 _ rfl).o, ⟨by omega, h1⟩, pc, rfl, .int .u64 dr, (hall 1 _ rfl).o, ⟨by omega, h1⟩, pc, rfl, [.slice a1 n1 c1, .slice a2 n2 c2], rfl, hsub.o, ?_⟩
      refine call_v rfl (fun W' lw => few_x d.c _ W' (ConfR.mono _ _ _ _ lw hC)) (fun W2 v W3 l2 l3 hv => ?_)
      obtain ⟨cells, rfl, hC2⟩ := hv
      obtain ⟨b1, d1, b2, d2, rfl⟩ := hC2.form
      obtain ⟨m1, hm1⟩ : ∃ m, (fewC d.c).spaces.length = m := ⟨_, rfl⟩
      obtain ⟨m2, hm2⟩ : ∃ m, (fewC d.c).scopes.length = m := ⟨_, rfl⟩
      rw [hm1, hm2] at hC2 ⊢
      refine ⟨rfl, .inl ?_⟩
      intro bd Wd ld hrd
      refine ⟨0, _, [.int .i64 dk, .int .u64 dr, .slice b1 m1 d1, .slice b2 m2 d2], rfl, rfl, rfl, rfl, rfl, ?_, fun _ => ⟨_, rfl, hrd.o⟩, by show i + 1 ≤ maxLen; omega, by show (i + 1) * 64 ≤ 140737488355328; omega, rfl, @fun Ae ce _ => ?_⟩
      · intro u hu
        simp only [List.mem_cons, List.not_mem_nil, or_false] at hu
        rcases hu with rfl | rfl | rfl | rfl <;> rfl
      refine ⟨rfl, _, (i64_in ((i : Int) + 1) ⟨by omega, by omega⟩).symm, ⟨i + 1, Ae, ce, css ++ [[.int .i64 dk, .int .u64 dr, .slice b1 m1 d1, .slice b2 m2 d2]]⟩, all_sl ⟨rfl, rfl, trivial⟩, rfl, ole_eq ?_, ⟨by dsimp only; omega, by dsimp only; omega, ?_⟩, by dsimp only; omega⟩
      · have : (css ++ [[Value.int .i64 dk, .int .u64 dr, .slice b1 m1 d1, .slice b2 m2 d2]]).flatten = css.flatten ++ [.int .i64 dk, .int .u64 dr, .slice b1 m1 d1, .slice b2 m2 d2] := by simp
        unfold doO
        dsimp only
        rw [this]
        rfl
      · have : fewD (i + 1) l = fewD i l ++ [⟨d.kind, d.rev, fewC d.c⟩] := by unfold fewD; rw [List.take_add_one, hx]; simp
        dsimp only
        rw [this]
        have hRR : doR Wd ⟨d.kind, d.rev, fewC d.c⟩ [.int .i64 dk, .int .u64 dr, .slice b1 m1 d1, .slice b2 m2 d2] := ⟨_, _, by rw [hdk, hdr], ConfR.mono _ _ _ _ ld hC2⟩
        exact LR.snoc rfl hRR (hL.mono doR.mono (l2.trans (l3.trans ld)))
    · intro h2
      have h2 : ¬ (i : Int) < n := h2
      refine RetVC.freeze (i := 0) (fun _ hb => hb) rfl fun W3 l3 hfr => ?_
      exact ret_plain rfl fun W4 l4 => out (by omega) W4 (l3.trans l4) (SlRead.mono hfr l4)
  · intro h1
    have h1 : ¬ (i : Int) < l.length := h1
    refine RetVC.freeze (i := 0) (fun _ hb => hb) rfl fun W3 l3 hfr => ?_
    exact ret_plain rfl fun W4 l4 => out (by omega) W4 (l3.trans l4) (SlRead.mono hfr l4)

def goodD (d : DoS) : Prop := okCB d.c ∧ BdC d.c ∧ (rightN d.c = true → SmC d.c)
theorem fewD_good {n : Nat} {l : List DoS} (h : ∀ d ∈ l, anyC d.c) : ∀ d ∈ fewD n l, goodD d := by
  intro d hd
  unfold fewD at hd
  obtain ⟨d0, h0, rfl⟩ := List.mem_map.1 hd
  have ha := h d0 (List.mem_of_mem_take h0)
  exact ⟨few_ok ha, few_bd _, few_smc ha⟩
theorem fewD_len (n : Nat) (l : List DoS) : (fewD n l).length ≤ n := by
  unfold fewD; rw [List.length_map, List.length_take]; omega
theorem HOK.nil : HOK [] := ⟨by decide, fun e h => by cases h⟩

end Go.Proofs.YtcgbcbdgjhnlaaaGreat
