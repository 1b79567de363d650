/- The engine: maps that a call makes, knows as they stand now, and leaves alone at last. -/
import Derived.Test.YtcgbcbdgjhnlaaaVPB
import Derived.Maps.OwnSet
import Derived.Maps.OwnOps
import Derived.Maps.Views
namespace Go.Proofs.Ytcgbcbdgjhnlaaa
open Go.RowKit Go.Maps

section
variable {P : Program} {B : Base}
/-- Later, with what stood at that time (but for one block) still standing. -/
structure PW.Ex (W W' : PW) (x : Option Nat) : Prop where
  le : W.Le W'
  ex : ∀ b, W.A b → some b ≠ x → W'.A b ∧ W'.w.heap[b]? = W.w.heap[b]?
  fr : ∀ b, W'.F b → W.F b
/-- A block that is known as it stands, new since the call began, and may still be written. -/
def PW.Now (B : Base) (W : PW) (g : Nat) : Prop := W.A g ∧ ¬ W.F g ∧ B.W.w.heap.size ≤ g
theorem PW.Ex.now {W W' : PW} {x : Option Nat} {g : Nat} (h : PW.Ex W W' x) (hg : PW.Now B W g) (hx : some g ≠ x) : PW.Now B W' g ∧ W'.w.heap[g]? = W.w.heap[g]? :=
  ⟨⟨(h.ex g hg.1 hx).1, fun hf => hg.2.1 (h.fr g hf), hg.2.2⟩, (h.ex g hg.1 hx).2⟩
theorem ownsMap_same {W W' : PW} {k : TypeId} {R : Value → Option (DataW Unit × List MemPlace)} {g n : Nat} {D : DataW Unit} (h : W.w.ownsMap (H := Unit) P k R g n D) (e : W'.w.heap[g]? = W.w.heap[g]?) : W'.w.ownsMap (H := Unit) P k R g n D := by
  obtain ⟨es, clock, k1, k2⟩ := h
  exact ⟨es, clock, e.trans k1, k2⟩
/-- The world after one block, known or new, was written. -/
def PW.turn (W : PW) (w' : World) (g : Nat) (hl : ∀ b, W.A b ∨ b = g → b < w'.heap.size) : PW := ⟨w', fun b => W.A b ∨ b = g, hl, W.F, fun b hb => .inl (W.fa b hb)⟩
theorem St.turn {ρ : Nat → Nat} {S : GS} {w : World} (h : St B ρ S w) {w' : World} {g : Nat} (hg : w.grownBy w' (some g)) (hl : g < w'.heap.size) (hB : B.W.w.heap.size ≤ g) (hF : ¬ S.W.F g) (hρ : ∀ k, k < S.σ.length → ρ k ≠ g)
    (hO : ∀ (i : Nat) (o : Own), S.O[i]? = some o → o.v.ownBlock ≠ some g) :
    ∃ hl' : ∀ b, S.W.A b ∨ b = g → b < w'.heap.size, PW.Ex S.W (S.W.turn w' g hl') (some g) ∧ PW.Now B (S.W.turn w' g hl') g ∧ St B ρ ⟨S.σ, S.O, S.W.turn w' g hl'⟩ w' := by
  have hs := hg.size
  have hne : ∀ b, b ≠ g → some b ≠ some g := fun b hb e => hb (Option.some.inj e)
  have hl' : ∀ b, S.W.A b ∨ b = g → b < w'.heap.size := fun b hb => hb.elim (fun hA => Nat.lt_of_lt_of_le (h.A_lt hA) hs) (fun e => e ▸ hl)
  have hle : S.W.Le (S.W.turn w' g hl') := ⟨Nat.le_trans h.vsize hs, fun _ hb => hb, fun b hb => (hg.block b (h.A_lt (S.W.fa b hb)) (hne b fun e => hF (e ▸ hb))).trans (h.vblock b (S.W.fa b hb))⟩
  refine ⟨hl', ⟨hle, fun b hb hx => ⟨.inl hb, (hg.block b (h.A_lt hb) hx).trans (h.vblock b hb)⟩, fun _ hb => hb⟩, ⟨.inr rfl, hF, hB⟩, ?_⟩
  refine ⟨⟨hg.os.trans h.keep.os, hg.tape.trans h.keep.tape, hg.output.trans h.keep.output, Nat.le_trans h.keep.size hs, fun b hb hn => ?_⟩, Nat.le_refl _, fun _ _ => rfl, h.mono.trans hle, fun b hb => hb.elim (h.back b) (fun e => .inr (e ▸ hB)), fun k cs hk => ?_, fun k hk => ⟨fun hA => hA.elim (h.locA k hk).1 (hρ k hk), (h.locA k hk).2⟩, h.inj, h.cells, h.rc, fun i o hi => ?_, h.sep⟩
  · exact (hg.block b (Nat.lt_of_lt_of_le hb h.keep.size) (hne b (by omega))).trans (h.keep.block b hb hn)
  · obtain ⟨e, he⟩ := h.loc k cs hk
    exact ⟨e, (hg.block _ (heap_lt he) (hne _ (hρ k (List.getElem?_eq_some_iff.1 hk).1))).trans he⟩
  · obtain ⟨g1, g2⟩ := h.own i o hi
    exact ⟨g1.kept hg (.inr (hO i o hi)), fun b hb => ⟨fun hA => hA.elim (g2 b hb).1 fun e => hO i o hi (e ▸ hb), (g2 b hb).2⟩⟩
theorem raw_make {o : Oper} {t : TypeId} {f : Fr} {prot : List Nat} {S : GS} {K : GV → GS → Prop} (ho : o.op = .makeMap t none)
    (hK : ∀ (W' : PW) (g : Nat), PW.Ex S.W W' none → PW.Now B W' g → ¬ S.W.A g → (∀ (k : TypeId) (R : Value → Option (DataW Unit × List MemPlace)), W'.w.ownsMap (H := Unit) P k R g 0 (.map [])) → K (.v (.map (some g))) ⟨S.σ, S.O, W'⟩) : RawVC P B o f prot S K := by
  refine ⟨fun ρ w ev hev hst => ?_⟩
  obtain ⟨dst, op, type, pos, after, guard⟩ := o
  obtain rfl : op = .makeMap t none := ho
  have hnA : ¬ S.W.A w.heap.size := fun h => Nat.lt_irrefl _ (hst.A_lt h)
  obtain ⟨hl', h1, h2, h3⟩ := hst.turn (g := w.heap.size) (World.grownBy_alloc w (.map #[] 0) _) (by simp) hst.keep.size (fun h => hnA (S.W.fa _ h)) (fun k hk e => by have := hst.loc_lt hk; omega) (fun i o hi e => by have := hst.own_lt hi e; omega)
  refine ⟨.v (.map (some w.heap.size)), ⟨S.σ, S.O, S.W.turn _ w.heap.size hl'⟩, ρ, _, .inl ?_, fun _ _ => rfl, ⟨Nat.le_refl _, h1.le, ⟨fun _ _ => rfl, fun _ _ _ h => h⟩⟩, trivial, h3, hK _ _ ⟨h1.le, fun b hb _ => h1.ex b hb fun e => hnA (Option.some.inj e ▸ hb), h1.fr⟩ h2 hnA fun k R => World.ownsMap_made w P k R⟩
  rfl
theorem raw_put {o : Oper} {t k e : TypeId} {m x v : Operand} {g n : Nat} {D : DataW Unit} {R : Value → Option (DataW Unit × List MemPlace)} {key val : Value} {kl : Lit} {d : DataW Unit} {ps : List MemPlace} {f : Fr} {prot : List Nat} {S : GS} {K : GV → GS → Prop}
    (ho : o.op = .mapUpdate t m x v) (hKd : Keyed P k) (ht : P.underlying t = some (.map k e)) (hm : evG f m = .v (.map (some g))) (hx : ∀ ρ, (evG f x).real ρ = key) (hv : ∀ ρ, (evG f v).real ρ = val) (hkey : keyOf P k key = some kl) (hval : R val = some (d, ps)) (hn : n < maxLen)
    (hg : PW.Now B S.W g) (hM : S.W.w.ownsMap (H := Unit) P k R g n D)
    (hK : ∀ W' : PW, PW.Ex S.W W' (some g) → PW.Now B W' g → W'.w.ownsMap (H := Unit) P k R g (n + 1) (D.put kl d) → K (.v undef) ⟨S.σ, S.O, W'⟩) : RawVC P B o f prot S K := by
  refine ⟨fun ρ w ev hev hst => ?_⟩
  obtain ⟨dst, op, type, pos, after, guard⟩ := o
  obtain rfl : op = .mapUpdate t m x v := ho
  have e1 : ev m = .map (some g) := by rw [hev, hm]; rfl
  have e2 : ev x = key := by rw [hev, hx]
  have e3 : ev v = val := by rw [hev, hv]
  have hown : w.ownsMap (H := Unit) P k R g n D := by
    obtain ⟨es, clock, k1, k2⟩ := hM
    exact ⟨es, clock, (hst.vblock _ hg.1).trans k1, k2⟩
  obtain ⟨w', hrun, hown', hgrow⟩ := hown.update hKd ht hn hkey hval
  obtain ⟨hl', h1, h2, h3⟩ := hst.turn (g := g) hgrow hown'.lt hg.2.2 hg.2.1 (fun k hk e => (hst.locA k hk).1 (e ▸ hg.1)) (fun i o hi e => ((hst.own i o hi).2 g e).1 hg.1)
  refine ⟨.v undef, ⟨S.σ, S.O, S.W.turn w' g hl'⟩, ρ, w', .inr ⟨?_, rfl⟩, fun _ _ => rfl, ⟨Nat.le_refl _, h1.le, ⟨fun _ _ => rfl, fun _ _ _ h => h⟩⟩, trivial, h3, hK _ h1 h2 hown'⟩
  simp only [execOp, e1, e2, e3, Sem.run_bind, hrun, Result.andThen_ok, Sem.run_pure]
/-- A return of a pointer to one of the call's own variables; a map that was known stays as it is. -/
theorem ret_lp {k g : Nat} {cs : List PV} {vs : List Value} {x : Value} {R : Value → PW → Prop} {S : GS} (hex : B.ex = []) (hk : S.σ[k]? = some cs) (hp : plainCells cs = some vs) (hg : PW.Now B S.W g)
    (hR : ∀ (a : Addr) (W' : PW), S.W.Le W' → W'.F g → W'.w.heap[g]? = S.W.w.heap[g]? → Rds W' a vs → R (.tuple ⟨[.pointer (some a), x]⟩) W') : RetVC B [.lp k 0, .v x] R S := by
  refine ⟨fun ρ w hst => ?_⟩
  have hkl := (List.getElem?_eq_some_iff.1 hk).1
  obtain ⟨e, he⟩ := hst.loc k cs hk
  rw [plain_real ρ hp] at he
  have hlt := hst.loc_lt hkl
  let W' : PW := ⟨w, fun b => S.W.A b ∨ b = ρ k, fun b hb => hb.elim (fun h => hst.A_lt h) (fun e => e ▸ hlt), fun b => S.W.F b ∨ b = g ∨ b = ρ k, fun b hb => hb.elim (fun h => .inl (S.W.fa b h)) fun h => h.elim (fun e => .inl (e ▸ hg.1)) .inr⟩
  have hle : S.W.Le W' := ⟨hst.vsize, fun b hb => .inl hb, fun b hb => hst.vblock b (S.W.fa b hb)⟩
  refine ⟨W', rfl, ⟨hst.keep, hst.mono.trans hle, fun b hb => hb.elim (hst.back b) fun e => ?_⟩, hR ⟨ρ k, 0, none⟩ W' hle (.inr (.inl rfl)) (hst.vblock g hg.1) ?_⟩
  · rcases (hst.locA k hkl).2 with h | h
    · rw [hex] at h; cases h
    · exact .inr (e ▸ h)
  · intro j v hj
    rw [add_lit, Nat.zero_add]
    refine ⟨.inr (.inr rfl), ?_⟩
    simp [World.cell?, W', he, hj]
end
end Go.Proofs.Ytcgbcbdgjhnlaaa

