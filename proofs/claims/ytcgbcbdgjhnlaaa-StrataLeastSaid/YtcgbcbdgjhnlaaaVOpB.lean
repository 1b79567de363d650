/- What a statement's arguments are, as they are handed in: configurations. -/
import Derived.Test.YtcgbcbdgjhnlaaaVOpA
import Derived.Test.YtcgbcbdgjhnlaaaVFew
namespace Go.Proofs.Ytcgbcbdgjhnlaaa
open Go.ChangeShapes Go.WideShapes Go.ChangeAt Go.RowKit

def anyR (r : RelS) : Prop := r.name.length ≤ 9223372036854775807 ∧ (∀ t ∈ r.types, smT t) ∧ ∀ n ∈ r.nodes, n.small
def anyS (s : SpaceS) : Prop := s.name.length ≤ 9223372036854775807 ∧ ∀ r ∈ s.rels, anyR r
def anyC (c : ConfS) : Prop := (∀ s ∈ c.spaces, anyS s) ∧ ∀ s ∈ c.scopes, smS s
theorem few_ok {c : ConfS} (h : anyC c) : okCB (fewC c) := by
  refine ⟨?_, ?_, fun s hs => ?_, fun s hs => h.2 s (List.mem_of_mem_take hs)⟩
  · unfold fewC; rw [List.length_map, List.length_take]; omega
  · unfold fewC; rw [List.length_take]; omega
  · obtain ⟨s0, hs0, rfl⟩ := List.mem_map.1 hs
    have h0 := h.1 s0 (List.mem_of_mem_take hs0)
    refine ⟨?_, ?_, fun r hr => ?_⟩
    · have := h0.1
      unfold fewSp; rw [List.length_take]; omega
    · unfold fewSp; rw [List.length_map, List.length_take]; omega
    · obtain ⟨r0, hr0, rfl⟩ := List.mem_map.1 hr
      have h1 := h0.2 r0 (List.mem_of_mem_take hr0)
      refine ⟨h1.1, fun t ht => h1.2.1 t (List.mem_of_mem_take ht), ?_, ?_, fun n hn => h1.2.2 n (List.mem_of_mem_take hn)⟩
      · unfold fewRel; rw [List.length_take]; omega
      · unfold fewRel; rw [List.length_take]; omega

section
variable {H : Type} {enc : TypeId × Value → H} {w : World} {base : Nat} {spare : Nat → Bool} {held : Bool}
theorem cells_type : Try.prog.cellsOf 166 = 2 := by kernel_rfl
theorem cells_rel : Try.prog.cellsOf 88 = 3 := by kernel_rfl
theorem cells_space : Try.prog.cellsOf 83 = 2 := by kernel_rfl
theorem cells_ref : Try.prog.cellsOf 42 = 2 := by kernel_rfl
theorem cells_scope : Try.prog.cellsOf 163 = 4 := by kernel_rfl
theorem cells_conf : Try.prog.cellsOf 74 = 2 := by kernel_rfl
theorem cells_types : Try.prog.cellsOf 85 = 1 := by kernel_rfl
theorem cells_nodes : Try.prog.cellsOf 86 = 1 := by kernel_rfl
theorem cells_rels : Try.prog.cellsOf 81 = 1 := by kernel_rfl
theorem cells_spaces : Try.prog.cellsOf 71 = 1 := by kernel_rfl
theorem cells_scopes : Try.prog.cellsOf 72 = 1 := by kernel_rfl
theorem two {α : Type} : ∀ {l : List α}, l.length = 2 → ∃ a b, l = [a, b]
  | [a, b], _ => ⟨a, b, rfl⟩
  | [], h => by cases h
  | [_], h => by cases h
  | _ :: _ :: _ :: _, h => by simp at h
theorem three {α : Type} : ∀ {l : List α}, l.length = 3 → ∃ a b c, l = [a, b, c]
  | [a, b, c], _ => ⟨a, b, c, rfl⟩
  | [], h => by cases h
  | [_], h => by cases h
  | [_, _], h => by cases h
  | _ :: _ :: _ :: _ :: _, h => by simp at h
theorem four {α : Type} : ∀ {l : List α}, l.length = 4 → ∃ a b c d, l = [a, b, c, d]
  | [a, b, c, d], _ => ⟨a, b, c, d, rfl⟩
  | [], h => by cases h
  | [_], h => by cases h
  | [_, _], h => by cases h
  | [_, _, _], h => by cases h
  | _ :: _ :: _ :: _ :: _ :: _, h => by simp at h
theorem strs_two {fuel : Nat} {cs : List Value} {x y : DataW H × List MemPlace} (hl : cs.length = 2) (h0 : DataW.trod enc Try.prog w base spare held fuel 9 ((cs.drop 0).take (Try.prog.cellsOf 9)) = some x)
    (h1 : DataW.trod enc Try.prog w base spare held fuel 9 ((cs.drop 1).take (Try.prog.cellsOf 9)) = some y) : ∃ a b : List UInt8, cs = [strV a, strV b] ∧ a.length ≤ 9223372036854775807 ∧ b.length ≤ 9223372036854775807 := by
  rw [cells_string] at h0 h1
  obtain ⟨c0, c1, rfl⟩ := two hl
  obtain ⟨a, k0, s0⟩ := open_str h0
  obtain ⟨b, k1, s1⟩ := open_str h1
  simp only [List.drop_zero, List.take_succ_cons, List.take_zero, List.drop_succ_cons, List.cons.injEq, and_true] at k0 k1
  exact ⟨a, b, by rw [k0, k1], s0, s1⟩
theorem open_type {fuel : Nat} {cs : List Value} {x : DataW H × List MemPlace} (h : DataW.trod enc Try.prog w base spare held fuel 166 cs = some x) : ∃ t : TypS, smT t ∧ cs = typC t := by
  obtain ⟨y0, y1, n, _, hl, h0, h1⟩ := trod_struct2 Try.underlying166 h
  obtain ⟨a, b, rfl, s0, s1⟩ := strs_two (hl.trans cells_type) h0 h1
  exact ⟨⟨a, b⟩, ⟨s0, s1⟩, rfl⟩
theorem open_ref {fuel : Nat} {cs : List Value} {x : DataW H × List MemPlace} (h : DataW.trod enc Try.prog w base spare held fuel 42 cs = some x) : ∃ r : RefS, r.fits ∧ cs = refC r := by
  obtain ⟨y0, y1, n, _, hl, h0, h1⟩ := trod_struct2 Try.underlying42 h
  obtain ⟨a, b, rfl, s0, s1⟩ := strs_two (hl.trans cells_ref) h0 h1
  exact ⟨⟨a, b⟩, ⟨s0, s1⟩, rfl⟩
theorem rel_cells {n : Nat} {cs : List Value} {x0 x1 x2 : DataW H × List MemPlace} (hl : cs.length = 3)
    (h0 : DataW.trod enc Try.prog w base spare held n 9 ((cs.drop 0).take (Try.prog.cellsOf 9)) = some x0) (h1 : DataW.trod enc Try.prog w base spare held n 85 ((cs.drop 1).take (Try.prog.cellsOf 85)) = some x1)
    (h2 : DataW.trod enc Try.prog w base spare held n 86 ((cs.drop 2).take (Try.prog.cellsOf 86)) = some x2) : ∃ r : RelS, anyR r ∧ RelR (PW.all w) r cs := by
  rw [cells_string] at h0
  rw [cells_types] at h1
  rw [cells_nodes] at h2
  obtain ⟨c0, c1, c2, rfl⟩ := three hl
  obtain ⟨a, k0, s0⟩ := open_str h0
  simp only [List.drop_zero, List.take_succ_cons, List.take_zero, List.drop_succ_cons, List.cons.injEq, and_true] at k0 h1 h2
  obtain ⟨ts, g1, _, g3⟩ := open_RL (R := fun _ z cs => cs = typC z) Try.underlying85 cells_type (fun n cs y hy => open_type hy) h1
  obtain ⟨ns, f1, _, f3⟩ := open_RL (R := fun _ z cs => cs = nodeC z) Try.underlying86 cells_node (fun n cs y hy => open_node hy) h2
  exact ⟨⟨a, ts, ns⟩, ⟨s0, g1, f1⟩, c1, c2, by rw [k0], RP.of_RL g3, RP.of_RL f3⟩
theorem open_rel_of {fs : Array Field} (hu : Try.prog.underlying 88 = some (.struct fs)) (h3 : fs.size = 3) (g0 : ∃ f, fs[0]? = some f ∧ f.type = 9 ∧ f.offset = 0) (g1 : ∃ f, fs[1]? = some f ∧ f.type = 85 ∧ f.offset = 1) (g2 : ∃ f, fs[2]? = some f ∧ f.type = 86 ∧ f.offset = 2)
    {fuel : Nat} {cs : List Value} {x : DataW H × List MemPlace} (h : DataW.trod enc Try.prog w base spare held fuel 88 cs = some x) : ∃ r : RelS, anyR r ∧ RelR (PW.all w) r cs := by
  obtain ⟨xs, n, _, _, hl, hlen, hf⟩ := DataW.trod_struct hu h
  rw [cells_rel] at hl
  rw [h3] at hlen
  obtain ⟨x0, x1, x2, rfl⟩ := three hlen
  obtain ⟨f0, a0, b0, c0⟩ := g0
  obtain ⟨f1, a1, b1, c1⟩ := g1
  obtain ⟨f2, a2, b2, c2⟩ := g2
  have h0 := hf 0 f0 a0
  have h1 := hf 1 f1 a1
  have h2 := hf 2 f2 a2
  rw [b0, c0] at h0
  rw [b1, c1] at h1
  rw [b2, c2] at h2
  exact rel_cells hl h0 h1 h2
theorem open_rel {fuel : Nat} {cs : List Value} {x : DataW H × List MemPlace} (h : DataW.trod enc Try.prog w base spare held fuel 88 cs = some x) : ∃ r : RelS, anyR r ∧ RelR (PW.all w) r cs :=
  open_rel_of Try.underlying88 rfl ⟨_, rfl, rfl, rfl⟩ ⟨_, rfl, rfl, rfl⟩ ⟨_, rfl, rfl, rfl⟩ h
theorem open_space {fuel : Nat} {cs : List Value} {x : DataW H × List MemPlace} (h : DataW.trod enc Try.prog w base spare held fuel 83 cs = some x) : ∃ s : SpaceS, anyS s ∧ SpR (PW.all w) s cs := by
  obtain ⟨y0, y1, n, _, hl, h0, h1⟩ := trod_struct2 Try.underlying83 h
  obtain ⟨c0, c1, rfl⟩ := two (hl.trans cells_space)
  have h0 : DataW.trod enc Try.prog w base spare held n 9 (([c0, c1].drop 0).take (Try.prog.cellsOf 9)) = some y0 := h0
  have h1 : DataW.trod enc Try.prog w base spare held n 81 (([c0, c1].drop 1).take (Try.prog.cellsOf 81)) = some y1 := h1
  rw [cells_string] at h0
  rw [cells_rels] at h1
  obtain ⟨a, k0, s0⟩ := open_str h0
  simp only [List.drop_zero, List.take_succ_cons, List.take_zero, List.drop_succ_cons, List.cons.injEq, and_true] at k0 h1
  obtain ⟨rs, g1, _, g3⟩ := open_RL (R := RelR) Try.underlying81 cells_rel (fun n cs y hy => open_rel hy) h1
  exact ⟨⟨a, rs⟩, ⟨s0, g1⟩, c1, by rw [k0], g3⟩
theorem scope_cells {n : Nat} {cs : List Value} {x0 x1 x2 : DataW H × List MemPlace} (hl : cs.length = 4)
    (h0 : DataW.trod enc Try.prog w base spare held n 9 ((cs.drop 0).take (Try.prog.cellsOf 9)) = some x0) (h1 : DataW.trod enc Try.prog w base spare held n 42 ((cs.drop 1).take (Try.prog.cellsOf 42)) = some x1)
    (h2 : DataW.trod enc Try.prog w base spare held n 9 ((cs.drop 3).take (Try.prog.cellsOf 9)) = some x2) : ∃ s : ScopeS, smS s ∧ cs = scopeC s := by
  rw [cells_string] at h0 h2
  rw [cells_ref] at h1
  obtain ⟨c0, c1, c2, c3, rfl⟩ := four hl
  obtain ⟨a, k0, s0⟩ := open_str h0
  obtain ⟨b, k2, s2⟩ := open_str h2
  obtain ⟨r, s1, k1⟩ := open_ref h1
  simp only [refC, List.drop_zero, List.take_succ_cons, List.take_zero, List.drop_succ_cons, List.cons.injEq, and_true] at k0 k1 k2
  exact ⟨⟨a, r, b⟩, ⟨s0, s1, s2⟩, by rw [k0, k1.1, k1.2, k2]; rfl⟩
theorem open_scope_of {fs : Array Field} (hu : Try.prog.underlying 163 = some (.struct fs)) (h3 : fs.size = 3) (g0 : ∃ f, fs[0]? = some f ∧ f.type = 9 ∧ f.offset = 0) (g1 : ∃ f, fs[1]? = some f ∧ f.type = 42 ∧ f.offset = 1) (g2 : ∃ f, fs[2]? = some f ∧ f.type = 9 ∧ f.offset = 3)
    {fuel : Nat} {cs : List Value} {x : DataW H × List MemPlace} (h : DataW.trod enc Try.prog w base spare held fuel 163 cs = some x) : ∃ s : ScopeS, smS s ∧ cs = scopeC s := by
  obtain ⟨xs, n, _, _, hl, hlen, hf⟩ := DataW.trod_struct hu h
  rw [cells_scope] at hl
  rw [h3] at hlen
  obtain ⟨x0, x1, x2, rfl⟩ := three hlen
  obtain ⟨f0, a0, b0, c0⟩ := g0
  obtain ⟨f1, a1, b1, c1⟩ := g1
  obtain ⟨f2, a2, b2, c2⟩ := g2
  have h0 := hf 0 f0 a0
  have h1 := hf 1 f1 a1
  have h2 := hf 2 f2 a2
  rw [b0, c0] at h0
  rw [b1, c1] at h1
  rw [b2, c2] at h2
  exact scope_cells hl h0 h1 h2
theorem open_scope {fuel : Nat} {cs : List Value} {x : DataW H × List MemPlace} (h : DataW.trod enc Try.prog w base spare held fuel 163 cs = some x) : ∃ s : ScopeS, smS s ∧ cs = scopeC s :=
  open_scope_of Try.underlying163 rfl ⟨_, rfl, rfl, rfl⟩ ⟨_, rfl, rfl, rfl⟩ ⟨_, rfl, rfl, rfl⟩ h
/-- A configuration that is handed in. -/
theorem open_conf {cells : Array Value} {d : DataW H} {ps : List MemPlace} (h : DataW.Trod enc Try.prog w base spare held 74 (.agg cells) d ps) : ∃ c : ConfS, anyC c ∧ ConfR (PW.all w) c cells.toList := by
  obtain ⟨fuel, h⟩ := h
  have h : DataW.trod enc Try.prog w base spare held fuel 74 cells.toList = some (d, ps) := h
  obtain ⟨y0, y1, n, _, hl, h0, h1⟩ := trod_struct2 Try.underlying74 h
  obtain ⟨c0, c1, e⟩ := two (hl.trans cells_conf)
  rw [e] at h0 h1 ⊢
  have h0 : DataW.trod enc Try.prog w base spare held n 71 (([c0, c1].drop 0).take (Try.prog.cellsOf 71)) = some y0 := h0
  have h1 : DataW.trod enc Try.prog w base spare held n 72 (([c0, c1].drop 1).take (Try.prog.cellsOf 72)) = some y1 := h1
  rw [cells_spaces] at h0
  rw [cells_scopes] at h1
  simp only [List.drop_zero, List.take_succ_cons, List.take_zero, List.drop_succ_cons] at h0 h1
  obtain ⟨ss, g1, _, g3⟩ := open_RL (R := SpR) Try.underlying71 cells_space (fun n cs y hy => open_space hy) h0
  obtain ⟨ks, f1, _, f3⟩ := open_RL (R := fun _ z cs => cs = scopeC z) Try.underlying72 cells_scope (fun n cs y hy => open_scope hy) h1
  exact ⟨⟨ss, ks⟩, ⟨g1, f1⟩, c0, c1, rfl, g3, RP.of_RL f3⟩
end
end Go.Proofs.Ytcgbcbdgjhnlaaa

