/- The engine: calls whose code is walked in their caller's place; calls that see nothing of their caller's variables. No statement is proved here. -/
import Derived.Test.YtcgbcbdgjhnlaaaGreatXPB
namespace Go.Proofs.YtcgbcbdgjhnlaaaGreat
open Go.RowKit

def inlK (rs : List RV) (K : GV → GS → Prop) : Ex → Fr → GS → Prop
  | .exit _, _, _ => False
  | _, f, S => match resG f S rs with | some l => ∃ v, plainRet l = some v ∧ K (.v v) S | none => False

section
variable {P : Program} {B : Base}

theorem call_inl (hmix : P.follows .mixedOrders = true) {fid : FuncId} {fn : Func} {mf : MF} (hf : P.funcs[fid]? = some fn) (hm : resF P fn = some mf) (hname : (fn.name == "runtime.NumGoroutine") = false)
    {args : List GV} {vs : List Value} (hp : plainGs args = some vs) (hlen : Nat.ble vs.length mf.N = true) {S : GS} {K : GV → GS → Prop}
    (hvc : ∀ rc : List Nat, vc P ⟨B.W, B.ex, rc⟩ (initV vs) S (inlK mf.rs K) mf.code) : CallVC P B fid args [] S K := by
  unfold resF at hm
  split at hm
  · rename_i c hb
    split at hm
    · rename_i mc rs hc hr
      simp only [Option.some.injEq] at hm
      subst hm
      refine ⟨⟨fn, hf, by rw [hb]; rfl, hname⟩, fun ρ w hst => ?_⟩
      rw [plainGs_real hp ρ]
      have hrc : ∀ (k g : Nat), ((List.range S.σ.length).map ρ)[k]? = some g → k < S.σ.length ∧ ρ k = g := by
        intro k g hk
        have hl := (List.getElem?_eq_some_iff.1 hk).1
        simp only [List.length_map, List.length_range] at hl
        rw [List.getElem?_map, List.getElem?_range hl] at hk
        exact ⟨hl, Option.some.inj hk⟩
      have hst' : St ⟨B.W, B.ex, (List.range S.σ.length).map ρ⟩ ρ S w := ⟨hst.keep, hst.vsize, hst.vblock, hst.mono, hst.back, hst.loc, hst.locA, hst.inj, hst.cells, hrc, hst.own, hst.sep⟩
      refine calls_of_wp hf hb ?_
      have hrel : Rel fn.ntmps ρ (initV vs) S.σ.length { tmps := (⟨vs⟩ : Array Value) ++ Array.replicate (fn.ntmps - (⟨vs⟩ : Array Value).size) undef, defers := [] } := by
        have hlen' : vs.length ≤ fn.ntmps := ble_le hlen
        refine ⟨rfl, by simp; omega, fun i => ?_, fun _ => trivial⟩
        show _ = vs.getD i undef
        rcases Nat.lt_or_ge i vs.length with h1 | h1
        · simp [Array.getElem?_append, h1]
        · simp [Array.getElem?_append, Nat.not_lt.2 h1, Array.getElem?_replicate]
          split <;> rfl
      refine Code.wp_mono (fun e a w' hq => ?_) (code_sound hmix hc (S₀ := S) (PW.Le.refl _) (Nat.le_refl _) (by simp) hrel hst' (hvc _))
      have fin : ∀ f S1 ρ1, S.W.Le S1.W → S.σ.length ≤ S1.σ.length → Rel fn.ntmps ρ1 f S1.σ.length a → St ⟨B.W, B.ex, (List.range S.σ.length).map ρ⟩ ρ1 S1 w' → (match resG f S1 rs with | some l => ∃ v, plainRet l = some v ∧ K (.v v) S1 | none => False) →
          a.defers = [] ∧ ∃ v, (results fn a.tmps).run P w' = .ok v w' ∧ ∃ (g : GV) (S' : GS) (ρ' : Nat → Nat), Ending.returned v = .returned (g.real ρ') ∧ (∀ k, k < S.σ.length → ρ' k = ρ k) ∧ Grow [] S S' ∧ g.lt S'.σ.length ∧ St B ρ' S' w' ∧ K g S' := by
        intro f S1 ρ1 h1 h2 h3 h4 h5
        split at h5
        · rename_i gs hgs
          obtain ⟨v, hv, hK⟩ := h5
          have hag : ∀ k, k < S.σ.length → ρ1 k = ρ k := fun k hk => (h4.rc k (ρ k) (by rw [List.getElem?_map, List.getElem?_range hk]; rfl)).2
          refine ⟨h3.defers, _, retVal_run h3 h4 hr hgs, .v v, S1, ρ1, by rw [plainRet_real hv ρ1]; rfl, hag, ⟨h2, h1, ⟨fun _ hk => (by cases hk), fun hk => (by cases hk)⟩⟩, trivial, ?_, hK⟩
          exact ⟨h4.keep, h4.vsize, h4.vblock, h4.mono, h4.back, h4.loc, h4.locA, h4.inj, h4.cells, fun k g hk => by
            obtain ⟨k1, k2⟩ := hst.rc k g hk
            exact ⟨Nat.lt_of_lt_of_le k1 h2, (hag k k1).trans k2⟩, h4.own, h4.sep⟩
        · exact h5.elim
      cases e with
      | normal => obtain ⟨f, S1, ρ1, g1, g2, h1, h2, h3⟩ := hq; exact fin f S1 ρ1 g1 g2 h1 h2 h3
      | ret => obtain ⟨f, S1, ρ1, g1, g2, h1, h2, h3⟩ := hq; exact fin f S1 ρ1 g1 g2 h1 h2 h3
      | exit id => obtain ⟨f, S1, ρ1, _, _, _, _, h3⟩ := hq; exact h3.elim
      | goto l => exact hq.elim
      | panic ch => exact hq.elim
      | outgrown => exact hq.elim
    · cases hm
  · cases hm

/-- The world as it stands, with the caller's variables among what is not written any more. -/
def PW.shut (w : World) (W : PW) (h : W.w.heap.size ≤ w.heap.size) (ρ : Nat → Nat) (n : Nat) (hl : ∀ k, k < n → ρ k < w.heap.size) : PW :=
  ⟨w, fun b => W.A b ∨ ∃ k, k < n ∧ ρ k = b, fun b hb => by
    rcases hb with hb | ⟨k, hk, rfl⟩
    · exact Nat.lt_of_lt_of_le (W.lt b hb) h
    · exact hl k hk, W.F, fun b hb => .inl (W.fa b hb)⟩
theorem call_frame {S : GS} {fid : FuncId} {args : List GV} {vs : List Value} {K : GV → GS → Prop} (hp : plainGs args = some vs)
    (h : ∀ (W1 : PW) (ex : List Nat), S.W.Le W1 → CallVC P ⟨W1, ex, []⟩ fid (vs.map GV.v) [] ⟨[], S.O, W1⟩ fun g S' => ∃ v, g = .v v ∧ ∀ W2, S.W.Le W2 → K (.v v) ⟨S.σ, S'.O, W2⟩) : CallVC P B fid args [] S K := by
  refine ⟨(h S.W [] (PW.Le.refl _)).callable, fun ρ w hst => ?_⟩
  have hl : ∀ k, k < S.σ.length → ρ k < w.heap.size := fun k hk => hst.loc_lt hk
  have hle : S.W.Le (PW.shut w S.W hst.vsize ρ S.σ.length hl) := ⟨hst.vsize, fun b hb => hb, fun b hb => hst.vblock b (S.W.fa b hb)⟩
  have hst1 : St ⟨PW.shut w S.W hst.vsize ρ S.σ.length hl, S.O.filterMap (fun o => o.v.ownBlock), []⟩ ρ ⟨[], S.O, PW.shut w S.W hst.vsize ρ S.σ.length hl⟩ w := by
    refine ⟨Keep.refl _ _, Nat.le_refl _, fun _ _ => rfl, PW.Le.refl _, fun b hb => .inl hb, fun k cs hk => (by simp at hk), fun k hk => absurd hk (Nat.not_lt_zero _), fun j k hj => absurd hj (Nat.not_lt_zero _), fun k cs hk => (by simp at hk), fun k g hk => (by simp at hk), fun i o hi => ?_, hst.sep⟩
    obtain ⟨h1, h2⟩ := hst.own i o hi
    refine ⟨h1, fun b hb => ?_⟩
    obtain ⟨k1, k2, k3⟩ := h2 b hb
    refine ⟨?_, .inl (List.mem_filterMap.2 ⟨o, List.mem_of_getElem? hi, hb⟩), fun k hk => absurd hk (Nat.not_lt_zero _)⟩
    rintro (hA | ⟨k, hk, e⟩)
    · exact k1 hA
    · exact k3 k hk e
  have hrun := (h _ (S.O.filterMap fun o => o.v.ownBlock) hle).run ρ w hst1
  rw [plainGs_real hp ρ]
  have hargs : (vs.map GV.v).map (GV.real ρ) = vs := by rw [List.map_map]; exact List.map_id _
  rw [hargs] at hrun
  refine hrun.mono fun e w' ⟨g, S', ρ', he, _, hg, _, hst', hK⟩ => ?_
  obtain ⟨v, rfl, hK⟩ := hK
  obtain ⟨σ', O', W'⟩ := S'
  have hback : ∀ b, (PW.shut w S.W hst.vsize ρ S.σ.length hl).A b → w'.heap[b]? = w.heap[b]? := fun b hb => hst'.keep.block b (PW.lt _ b hb) fun hm => by
    obtain ⟨o, ho, e⟩ := List.mem_filterMap.1 hm
    obtain ⟨i, hi⟩ := List.getElem?_of_mem ho
    obtain ⟨k1, _, k3⟩ := (hst.own i o hi).2 b e
    rcases hb with hA | ⟨k, hk, e⟩
    · exact k1 hA
    · exact k3 k hk e
  have hsz : w.heap.size ≤ w'.heap.size := Nat.le_trans hst'.mono.size hst'.vsize
  have hle2 : S.W.Le ⟨w', fun b => W'.A b ∧ ∀ k, k < S.σ.length → ρ k ≠ b, fun b hb => Nat.lt_of_lt_of_le (W'.lt b hb.1) hst'.vsize, fun b => W'.F b ∧ ∀ k, k < S.σ.length → ρ k ≠ b, fun b hb => ⟨W'.fa b hb.1, hb.2⟩⟩ := by
    refine ⟨Nat.le_trans hst.vsize hsz, fun b hb => ⟨hst'.mono.al b hb, fun k hk e => (hst.locA k hk).1 (e ▸ S.W.fa b hb)⟩, fun b hb => ?_⟩
    exact (hback b (.inl (S.W.fa b hb))).trans (hst.vblock b (S.W.fa b hb))
  refine ⟨.v v, ⟨S.σ, O', ⟨w', fun b => W'.A b ∧ ∀ k, k < S.σ.length → ρ k ≠ b, fun b hb => Nat.lt_of_lt_of_le (W'.lt b hb.1) hst'.vsize, fun b => W'.F b ∧ ∀ k, k < S.σ.length → ρ k ≠ b, fun b hb => ⟨W'.fa b hb.1, hb.2⟩⟩⟩, ρ, he, fun _ _ => rfl, ⟨Nat.le_refl _, hle2, ⟨fun k hk => (by cases hk), fun hk => (by cases hk)⟩⟩, trivial, ?_, hK _ hle2⟩
  refine ⟨?_, Nat.le_refl _, fun _ _ => rfl, hst.mono.trans hle2, fun b hb => ?_, fun k cs hk => ?_, fun k hk => ⟨fun hA => hA.2 k hk rfl, (hst.locA k hk).2⟩, hst.inj, hst.cells, hst.rc, fun i o hi => ?_, hst'.sep⟩
  · refine ⟨hst'.keep.os.trans hst.keep.os, hst'.keep.tape.trans hst.keep.tape, hst'.keep.output.trans hst.keep.output, Nat.le_trans hst.keep.size hsz, fun b hb hn => ?_⟩
    refine (hst'.keep.block b (Nat.lt_of_lt_of_le hb hst.keep.size) fun hm => ?_).trans (hst.keep.block b hb hn)
    obtain ⟨o, ho, e⟩ := List.mem_filterMap.1 hm
    obtain ⟨i, hi⟩ := List.getElem?_of_mem ho
    rcases ((hst.own i o hi).2 b e).2.1 with h1 | h1
    · exact hn h1
    · omega
  · obtain ⟨hb1, hb2⟩ := hb
    rcases hst'.back b hb1 with (h1 | ⟨k, hk, e⟩) | h1
    · exact hst.back b h1
    · exact absurd e (hb2 k hk)
    · exact .inr (Nat.le_trans hst.keep.size h1)
  · obtain ⟨e, he⟩ := hst.loc k cs hk
    exact ⟨e, (hback (ρ k) (.inr ⟨k, (List.getElem?_eq_some_iff.1 hk).1, rfl⟩)).trans he⟩
  · obtain ⟨h1, h2⟩ := hst'.own i o hi
    refine ⟨h1, fun b hb => ?_⟩
    obtain ⟨k1, k2, _⟩ := h2 b hb
    rcases k2 with k2 | k2
    · obtain ⟨o2, ho2, e2⟩ := List.mem_filterMap.1 k2
      obtain ⟨i2, hi2⟩ := List.getElem?_of_mem ho2
      exact ⟨fun hA => k1 hA.1, ((hst.own i2 o2 hi2).2 b e2).2.1, ((hst.own i2 o2 hi2).2 b e2).2.2⟩
    · have k2 : w.heap.size ≤ b := k2
      exact ⟨fun hA => k1 hA.1, .inr (Nat.le_trans hst.keep.size k2), fun k hk e => by have := hl k hk; omega⟩
end
end Go.Proofs.YtcgbcbdgjhnlaaaGreat
