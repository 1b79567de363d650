/- The conditions are enough: an operation with its guard, in the frame. -/
import Derived.Test.YtcgbcbdgjhnlaaaMono
import Derived.Scope
namespace Go.Proofs.Ytcgbcbdgjhnlaaa
open Go.RowKit

section
variable {P : Program} {B : Base} {N : Nat}

/-- Where an operation may come to: a later state, of which K. -/
def FR (B : Base) (N : Nat) (prot : List Nat) (S : GS) (ρ : Nat → Nat) (K : Fr → GS → Prop) (a : Act) (w : World) : Prop :=
  ∃ (f' : Fr) (S' : GS) (ρ' : Nat → Nat), Rel N ρ' f' S'.σ.length a ∧ (∀ k, k < S.σ.length → ρ' k = ρ k) ∧ Grow prot S S' ∧ St B ρ' S' w ∧ K f' S'

theorem resMI_spec {ops : Array Oper} {o : Oper} {past : List Nat} {mi : MI} (h : resMI P N ops o past = some mi) :
    mi.dst = o.dst ∧ mi.op = resOp P o ∧ mi.past = past ∧ (∀ d, o.dst = some d → d < N) ∧
    ((o.guard = none ∧ mi.guard = none) ∨ ∃ j want s, o.guard = some (j, want) ∧ (ops[j]?).bind (·.dst) = some s ∧ mi.guard = some (s, want)) := by
  unfold resMI at h
  split at h
  · cases h
  · rename_i hd
    have hdN : ∀ d, o.dst = some d → d < N := fun d he => by
      rw [he] at hd
      exact ble_le (a := d + 1) (b := N) hd
    split at h
    · rename_i hg
      simp only [Option.some.injEq] at h
      subst h
      exact ⟨rfl, rfl, rfl, hdN, .inl ⟨hg, rfl⟩⟩
    · rename_i j want hg
      split at h
      · rename_i s hs
        simp only [Option.some.injEq] at h
        subst h
        exact ⟨rfl, rfl, rfl, hdN, .inr ⟨j, want, s, hg, hs, rfl⟩⟩
      · cases h

theorem getD_some {l : Array Value} {i : Nat} {v : Value} (h : l.getD i undef = v) (hv : v ≠ undef) : l[i]? = some v := by
  rcases Nat.lt_or_ge i l.size with hlt | hge
  · rw [Array.getElem?_eq_getElem hlt]
    simp [hlt] at h
    rw [h]
  · exfalso
    apply hv
    rw [← h]
    simp [Array.getElem?_eq_none hge]

theorem wanted_none {ops : Array Oper} {o : Oper} {a : Act} (h : o.guard = none) : Region.wanted o (yielded ops a.tmps) = true := by simp [Region.wanted, h]
theorem wanted_bool {ops : Array Oper} {o : Oper} {a : Act} {j s : Nat} {want b : Bool} (h : o.guard = some (j, want)) (hs : (ops[j]?).bind (·.dst) = some s) (hb : a.tmps.getD s undef = .bool b) :
    Region.wanted o (yielded ops a.tmps) = (b == want) := by
  have h1 := getD_some hb (by simp [undef])
  simp [Region.wanted, h, yielded, hs, h1]
theorem wanted_tuple {ops : Array Oper} {o : Oper} {a : Act} {j s : Nat} {want : Bool} {vs : Array Value} (h : o.guard = some (j, want)) (hs : (ops[j]?).bind (·.dst) = some s) (hb : a.tmps.getD s undef = .tuple vs) :
    Region.wanted o (yielded ops a.tmps) = false := by
  cases h1 : a.tmps[s]? with
  | none => simp [Region.wanted, h, yielded, hs, h1]
  | some v =>
    have : v = .tuple vs := by
      rw [← hb]; simp [h1]
    subst this
    simp [Region.wanted, h, yielded, hs, h1]

theorem step_MI {ops : Array Oper} {o : Oper} {past : List Nat} {mi : MI} (hres : resMI P N ops o past = some mi) {f : Fr} {prot : List Nat} {S : GS} {ρ : Nat → Nat} {K : Fr → GS → Prop} {a : Act} {w : World}
    (hrel : Rel N ρ f S.σ.length a) (hst : St B ρ S w) (hp : ∀ k, k + 1 ∈ prot → k < S.σ.length) (hv : vcMI P B mi f prot S K) :
    (Region.wanted o (yielded ops a.tmps) = true → OpPost P ((execOp a.eval o).run P w) fun v w' => FR B N prot S ρ K (a.put o.dst v) w') ∧
    (Region.wanted o (yielded ops a.tmps) = false → FR B N prot S ρ K (a.put o.dst undef) w) := by
  obtain ⟨hdst, hop, _, hd, hg⟩ := resMI_spec hres
  have yes : (vcOp P B mi.op f prot S fun g S' => K (putF f mi.dst g) S') → OpPost P ((execOp a.eval o).run P w) fun v w' => FR B N prot S ρ K (a.put o.dst v) w' := by
    intro hvc
    rw [hop, hdst] at hvc
    have h := vcOp_sound hvc hrel.lt hrel.eval hst hp
    have up : ∀ v w', OpR B prot S (fun g S' => K (putF f o.dst g) S') ρ v w' → FR B N prot S ρ K (a.put o.dst v) w' := by
      rintro v w' ⟨g, S', ρ', rfl, h1, h2, h3, h4, h5⟩
      exact ⟨_, S', ρ', (hrel.mono h2.len h1).put hd h3, h1, h2, h4, h5⟩
    revert h
    generalize (execOp a.eval o).run P w = r
    intro h
    cases r with
    | ok n w' =>
      cases n <;> simp only [OpPost] at h ⊢
      case value v => exact up _ _ h
      case skip => exact up _ _ h
      case enter fid args => exact h.mono fun e w'' ⟨v, he, hr⟩ => ⟨v, he, up _ _ hr⟩
    | halt x w' => exact h.elim
  have no : K (putF f mi.dst (.v undef)) S → FR B N prot S ρ K (a.put o.dst undef) w := by
    intro hk
    rw [hdst] at hk
    exact ⟨_, S, ρ, hrel.put (g := .v undef) hd trivial, fun _ _ => rfl, Grow.refl _ _, hst, hk⟩
  rcases vcMI_cases hv with ⟨h1, hv⟩ | ⟨s, want, b, h1, hb, hv⟩ | ⟨s, want, vs, h1, hb, hv⟩
  · refine ⟨fun _ => yes hv, fun hw => ?_⟩
    rcases hg with ⟨hg, _⟩ | ⟨j, want, s, _, _, hg⟩
    · rw [wanted_none hg] at hw; cases hw
    · rw [h1] at hg; cases hg
  · rcases hg with ⟨_, hg⟩ | ⟨j, want', s', hg, hs, hg'⟩
    · rw [hg] at h1; cases h1
    · rw [h1] at hg'
      simp only [Option.some.injEq, Prod.mk.injEq] at hg'
      obtain ⟨rfl, rfl⟩ := hg'
      have hbv := hrel.val s
      rw [hb] at hbv
      rw [wanted_bool hg hs hbv]
      rcases hv with ⟨rfl, hv⟩ | ⟨hne, hv⟩
      · exact ⟨fun _ => yes hv, fun hw => by simp at hw⟩
      · exact ⟨fun hw => absurd (by simpa using hw) hne, fun _ => no hv⟩
  · rcases hg with ⟨_, hg⟩ | ⟨j, want', s', hg, hs, hg'⟩
    · rw [hg] at h1; cases h1
    · rw [h1] at hg'
      simp only [Option.some.injEq, Prod.mk.injEq] at hg'
      obtain ⟨rfl, rfl⟩ := hg'
      have hbv := hrel.val s
      rw [hb] at hbv
      rw [wanted_tuple hg hs hbv]
      exact ⟨fun hw => (by cases hw), fun _ => no hv⟩

theorem upon_of_post {o : Oper} {a : Act} {next : Act → World → Prop} {Q : Exit → Act → World → Prop} {r : Result Next} {R : Value → World → Prop} (h : OpPost P r R) (hn : ∀ v w', R v w' → next (a.put o.dst v) w') : o.upon P a next Q r := by
  cases r with
  | ok n w' =>
    cases n <;> simp only [OpPost] at h <;> try exact h.elim
    case value v => exact hn _ _ h
    case skip => exact hn _ _ h
    case enter fid args =>
      refine h.mono fun e w'' ⟨v, he, hr⟩ => ?_
      subst he
      exact hn _ _ hr
  | halt x w' => exact h.elim

/-- Where code may come to. -/
def Qrel (B : Base) (N : Nat) (S₀ : GS) (K : Ex → Fr → GS → Prop) (e : Exit) (a : Act) (w : World) : Prop :=
  match e with
  | .normal => ∃ f S ρ, S₀.W.Le S.W ∧ S₀.σ.length ≤ S.σ.length ∧ Rel N ρ f S.σ.length a ∧ St B ρ S w ∧ K .normal f S
  | .exit id => ∃ f S ρ, S₀.W.Le S.W ∧ S₀.σ.length ≤ S.σ.length ∧ Rel N ρ f S.σ.length a ∧ St B ρ S w ∧ K (.exit id) f S
  | .ret => ∃ f S ρ, S₀.W.Le S.W ∧ S₀.σ.length ≤ S.σ.length ∧ Rel N ρ f S.σ.length a ∧ St B ρ S w ∧ K .ret f S
  | _ => False

theorem Qrel.mono {S₀ S₁ : GS} (hl : S₀.W.Le S₁.W) (hn : S₀.σ.length ≤ S₁.σ.length) {K K' : Ex → Fr → GS → Prop} (h : ∀ e f S, K e f S → K' e f S) : ∀ e a w, Qrel B N S₁ K e a w → Qrel B N S₀ K' e a w := by
  intro e a w hq
  cases e with
  | normal => obtain ⟨f, S, ρ, h1, h2, h3, h4, h5⟩ := hq; exact ⟨f, S, ρ, hl.trans h1, Nat.le_trans hn h2, h3, h4, h _ _ _ h5⟩
  | exit id => obtain ⟨f, S, ρ, h1, h2, h3, h4, h5⟩ := hq; exact ⟨f, S, ρ, hl.trans h1, Nat.le_trans hn h2, h3, h4, h _ _ _ h5⟩
  | ret => obtain ⟨f, S, ρ, h1, h2, h3, h4, h5⟩ := hq; exact ⟨f, S, ρ, hl.trans h1, Nat.le_trans hn h2, h3, h4, h _ _ _ h5⟩
  | goto l => exact hq.elim
  | panic c => exact hq.elim
  | outgrown => exact hq.elim

theorem list_sound {ops : Array Oper} {S₀ : GS} {K : Ex → Fr → GS → Prop} : ∀ {l : List Oper} {ms : List MI}, resList P N ops l = some ms → ∀ {f : Fr} {S : GS} {ρ : Nat → Nat} {a : Act} {w : World},
    S₀.W.Le S.W → S₀.σ.length ≤ S.σ.length → Rel N ρ f S.σ.length a → St B ρ S w → vcOps P B ms f S (K .normal) → wpList P ops (Qrel B N S₀ K) l a w
  | [], ms, h, f, S, ρ, a, w, hl, hn, hrel, hst, hv => by
    simp only [resList, Option.some.injEq] at h
    subst h
    exact wpList_nil ⟨f, S, ρ, hl, hn, hrel, hst, hv⟩
  | o :: r, ms, h, f, S, ρ, a, w, hl, hn, hrel, hst, hv => by
    simp only [resList] at h
    split at h
    · rename_i m l hm hl'
      simp only [Option.some.injEq] at h
      subst h
      have hs := step_MI hm hrel hst (fun k hk => by cases hk) hv
      have next : ∀ a' w', FR B N [] S ρ (fun f' S' => vcOps P B l f' S' (K .normal)) a' w' → wpList P ops (Qrel B N S₀ K) r a' w' := by
        rintro a' w' ⟨f', S', ρ', h1, h2, h3, h4, h5⟩
        exact list_sound hl' (hl.trans h3.le) (Nat.le_trans hn h3.len) h1 h4 h5
      refine wpList_step fun K' hK' => ?_
      cases hw : Region.wanted o (yielded ops a.tmps) with
      | true =>
        rw [if_pos rfl]
        exact upon_of_post (hs.1 hw) fun v w' hr => hK' _ _ (next _ _ hr)
      | false =>
        rw [if_neg Bool.false_ne_true]
        exact hK' _ _ (next _ _ (hs.2 hw))
    · cases h

end
end Go.Proofs.Ytcgbcbdgjhnlaaa
