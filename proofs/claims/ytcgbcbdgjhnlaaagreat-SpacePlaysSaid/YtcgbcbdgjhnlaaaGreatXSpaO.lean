/- The engine: a function walked in its caller's place, its arguments and its one result ghost values (pointers to variables). No statement is proved here. -/
import Derived.Test.YtcgbcbdgjhnlaaaGreatXStrO
namespace Go.Proofs.YtcgbcbdgjhnlaaaGreat
open Go.RowKit

def initG (gs : List GV) : Fr := fun i => gs.getD i (.v undef)
def inlP (rs : List RV) (K : GV → GS → Prop) : Ex → Fr → GS → Prop
  | .exit _, _, _ => False
  | _, f, S => match resG f S rs with | some [.lp k o] => k < S.σ.length ∧ K (.lp k o) S | some l => ∃ v, plainRet l = some v ∧ K (.v v) S | none => False

section
variable {P : Program} {B : Base}
theorem call_inlP (hmix : P.follows .mixedOrders = true) {fid : FuncId} {fn : Func} {mf : MF} (hf : P.funcs[fid]? = some fn) (hm : resF P fn = some mf) (hname : (fn.name == "runtime.NumGoroutine") = false)
    {args : List GV} (hlen : Nat.ble args.length mf.N = true) {S : GS} (hlt : ∀ g ∈ args, g.lt S.σ.length) {K : GV → GS → Prop}
    (hvc : ∀ rc : List Nat, vc P ⟨B.W, B.ex, rc⟩ (initG args) S (inlP mf.rs K) mf.code) : CallVC P B fid args [] S K := by
  unfold resF at hm
  split at hm
  · rename_i c hb
    split at hm
    · rename_i mc rs hc hr
      simp only [Option.some.injEq] at hm
      subst hm
      refine ⟨⟨fn, hf, by rw [hb]; rfl, hname⟩, fun ρ w hst => ?_⟩
      obtain ⟨vs, hvs⟩ : ∃ vs, args.map (GV.real ρ) = vs := ⟨_, rfl⟩
      have hvl : vs.length = args.length := by rw [← hvs, List.length_map]
      rw [hvs]
      have hrc : ∀ (k g : Nat), ((List.range S.σ.length).map ρ)[k]? = some g → k < S.σ.length ∧ ρ k = g := by
        intro k g hk
        have hl := (List.getElem?_eq_some_iff.1 hk).1
        simp only [List.length_map, List.length_range] at hl
        rw [List.getElem?_map, List.getElem?_range hl] at hk
        exact ⟨hl, Option.some.inj hk⟩
      have hst' : St ⟨B.W, B.ex, (List.range S.σ.length).map ρ⟩ ρ S w := ⟨hst.keep, hst.vsize, hst.vblock, hst.mono, hst.back, hst.loc, hst.locA, hst.inj, hst.cells, hrc, hst.own, hst.sep⟩
      refine calls_of_wp hf hb ?_
      have hrel : Rel fn.ntmps ρ (initG args) S.σ.length { tmps := (⟨vs⟩ : Array Value) ++ Array.replicate (fn.ntmps - (⟨vs⟩ : Array Value).size) undef, defers := [] } := by
        have hlen' : vs.length ≤ fn.ntmps := hvl ▸ ble_le hlen
        refine ⟨rfl, by simp; omega, fun i => ?_, fun i => ?_⟩
        case refine_2 =>
          unfold initG
          rw [List.getD_eq_getElem?_getD]
          cases e : args[i]? with
          | none => trivial
          | some g => exact hlt g (List.mem_of_getElem? e)
        have e0 : (initG args i).real ρ = vs.getD i undef := by
          unfold initG
          rw [← hvs, List.getD_eq_getElem?_getD, List.getD_eq_getElem?_getD, List.getElem?_map]
          cases args[i]? <;> rfl
        rw [e0]
        rcases Nat.lt_or_ge i vs.length with h1 | h1
        · simp [Array.getElem?_append, h1]
        · simp [Array.getElem?_append, Nat.not_lt.2 h1, Array.getElem?_replicate]
          split <;> rfl
      refine Code.wp_mono (fun e a w' hq => ?_) (code_sound hmix hc (S₀ := S) (PW.Le.refl _) (Nat.le_refl _) (by simp) hrel hst' (hvc _))
      have fin : ∀ f S1 ρ1, S.W.Le S1.W → S.σ.length ≤ S1.σ.length → Rel fn.ntmps ρ1 f S1.σ.length a → St ⟨B.W, B.ex, (List.range S.σ.length).map ρ⟩ ρ1 S1 w' → (match resG f S1 rs with | some [.lp k o] => k < S1.σ.length ∧ K (.lp k o) S1 | some l => ∃ v, plainRet l = some v ∧ K (.v v) S1 | none => False) →
          a.defers = [] ∧ ∃ v, (results fn a.tmps).run P w' = .ok v w' ∧ ∃ (g : GV) (S' : GS) (ρ' : Nat → Nat), Ending.returned v = .returned (g.real ρ') ∧ (∀ k, k < S.σ.length → ρ' k = ρ k) ∧ Grow [] S S' ∧ g.lt S'.σ.length ∧ St B ρ' S' w' ∧ K g S' := by
        intro f S1 ρ1 h1 h2 h3 h4 h5
        have hag : ∀ k, k < S.σ.length → ρ1 k = ρ k := fun k hk => (h4.rc k (ρ k) (by rw [List.getElem?_map, List.getElem?_range hk]; rfl)).2
        have hst4 : St B ρ1 S1 w' := ⟨h4.keep, h4.vsize, h4.vblock, h4.mono, h4.back, h4.loc, h4.locA, h4.inj, h4.cells, fun k g hk => by
            obtain ⟨k1, k2⟩ := hst.rc k g hk
            exact ⟨Nat.lt_of_lt_of_le k1 h2, (hag k k1).trans k2⟩, h4.own, h4.sep⟩
        split at h5
        · rename_i k o hgs
          exact ⟨h3.defers, _, retVal_run h3 h4 hr hgs, .lp k o, S1, ρ1, rfl, hag, ⟨h2, h1, ⟨fun _ hk => (by cases hk), fun hk => (by cases hk)⟩⟩, h5.1, hst4, h5.2⟩
        · rename_i gs _ hgs
          obtain ⟨v, hv, hK⟩ := h5
          exact ⟨h3.defers, _, retVal_run h3 h4 hr hgs, .v v, S1, ρ1, by rw [plainRet_real hv ρ1]; rfl, hag, ⟨h2, h1, ⟨fun _ hk => (by cases hk), fun hk => (by cases hk)⟩⟩, trivial, hst4, hK⟩
        · exact h5.elim
      cases e with
      | normal => obtain ⟨f, S1, ρ1, g1, g2, h1, h2, h3⟩ := hq; exact fin f S1 ρ1 g1 g2 h1 h2 h3
      | ret => obtain ⟨f, S1, ρ1, g1, g2, h1, h2, h3⟩ := hq; exact fin f S1 ρ1 g1 g2 h1 h2 h3
      | exit id => obtain ⟨f, S1, ρ1, _, _, _, _, h3⟩ := hq; exact h3.elim
      | goto l => exact hq.elim
      | panic ch => exact hq.elim
      | outgrown => exact hq.elim
    · cases hm
  · cases hm
end
end Go.Proofs.YtcgbcbdgjhnlaaaGreat
