/- The conditions are enough: code. -/
import Derived.Test.YtcgbcbdgjhnlaaaDraw2
namespace Go.Proofs.Ytcgbcbdgjhnlaaa
open Go.RowKit

section
variable {P : Program} {B : Base} {N : Nat} {ops : Array Oper} {ps : List (List Nat)}

/-! ### From conditions to the walk of a tree -/
def TreeIs (P : Program) (N : Nat) (ops : Array Oper) (ps : List (List Nat)) : DT → Prop
  | .nil => True
  | .op i m r => resDI P N ops ps i = some m ∧ TreeIs P N ops ps r
  | .both a b => TreeIs P N ops ps a ∧ TreeIs P N ops ps b

theorem joinD_is : ∀ {l : List (Option DT)} {t : DT}, joinD l = some t → (∀ t', some t' ∈ l → TreeIs P N ops ps t') → TreeIs P N ops ps t
  | [], t, h, _ => by cases h
  | [y], t, h, hl => hl t (by simp only [joinD] at h; rw [h]; exact List.mem_cons_self ..)
  | y :: z :: r, t, h, hl => by
    simp only [joinD] at h
    split at h
    · rename_i p q h2
      simp only [Option.some.injEq] at h
      subst h
      exact ⟨hl p (List.mem_cons_self ..), joinD_is h2 fun t' ht => hl t' (List.mem_cons_of_mem _ ht)⟩
    · cases h
theorem dtree_is : ∀ (k : Nat) {before : List Nat} {t : DT}, dtree P N ops ps k before = some t → TreeIs P N ops ps t
  | 0, before, t, h => by
    simp only [dtree] at h
    obtain ⟨_, h⟩ := bif_some h
    simp only [Option.some.injEq] at h
    subst h; trivial
  | k + 1, before, t, h => by
    rcases dtree_cases h with ⟨i, m, r, _, _, _, hm, hr, rfl⟩ | ⟨_, hj⟩
    · exact ⟨hm, dtree_is k hr⟩
    · refine joinD_is hj fun t' ht => ?_
      obtain ⟨i, _, hi⟩ := List.mem_map.1 ht
      split at hi
      · rename_i m r hm hr
        simp only [Option.some.injEq] at hi
        subst hi
        exact ⟨hm, dtree_is k hr⟩
      · cases hi

theorem protOf_mem {m : MI} : ∀ {gp : List (Nat × List Nat)} {q : Nat} {ks : List Nat}, (q, ks) ∈ gp → m.past.contains q = false → ∀ k ∈ ks, k ∈ protOf m gp
  | [], q, ks, h, _, k, _ => by cases h
  | (i, js) :: r, q, ks, h, hp, k, hk => by
    simp only [protOf]
    rcases List.mem_cons.1 h with e | h
    · simp only [Prod.mk.injEq] at e
      obtain ⟨rfl, rfl⟩ := e
      rw [hp]
      exact List.mem_append_left _ hk
    · cases m.past.contains i
      · exact List.mem_append_right _ (protOf_mem h hp k hk)
      · exact protOf_mem h hp k hk
theorem protOf_sub {m : MI} : ∀ {gp : List (Nat × List Nat)} {k : Nat}, k ∈ protOf m gp → ∃ q ks, (q, ks) ∈ gp ∧ k ∈ ks
  | [], k, h => by cases h
  | (i, js) :: r, k, h => by
    simp only [protOf] at h
    cases hc : m.past.contains i <;> rw [hc] at h
    · rcases List.mem_append.1 h with h | h
      · exact ⟨i, js, List.mem_cons_self .., h⟩
      · obtain ⟨q, ks, h1, h2⟩ := protOf_sub h
        exact ⟨q, ks, List.mem_cons_of_mem _ h1, h2⟩
    · obtain ⟨q, ks, h1, h2⟩ := protOf_sub h
      exact ⟨q, ks, List.mem_cons_of_mem _ h1, h2⟩

def PendOK (P : Program) (B : Base) (ops : Array Oper) (gp : List (Nat × List Nat)) (sp : Pend) (S : GS) (ρ : Nat → Nat) : Prop :=
  ∀ p ∈ sp, ∃ ks oq, (p.1, ks) ∈ gp ∧ ops[p.1]? = some oq ∧ ∀ (S' : GS) (ρ' : Nat → Nat) (w' : World), St B ρ' S' w' → S.W.Le S'.W → S.σ.length ≤ S'.σ.length → (∀ k, k < S.σ.length → ρ' k = ρ k) →
    Held ks S S' → YW P ops oq p.2.1 p.2.2 w'

theorem depOf_lt {m : M} {f : Fr} {n : Nat} (hlt : ∀ i, (f i).lt n) : ∀ k, k + 1 ∈ depOf m f → k < n := by
  intro k hk
  cases m <;> simp only [depOf] at hk <;> try (cases hk; done)
  case b2s x => simp at hk
  all_goals
    rename_i x
    split at hk
    · rename_i j o hx
      have := evG_lt hlt x
      rw [hx] at this
      simp only [List.mem_singleton, Nat.add_right_cancel_iff] at hk
      subst hk; exact this
    · simp at hk
    · cases hk

theorem canon_of_vc {K : Fr → GS → Prop} : ∀ {t : DT} {gp : List (Nat × List Nat)} {sp : Pend} {f : Fr} {S : GS} {ρ : Nat → Nat} {a : Act} {w : World} {S₀ : GS}, TreeIs P N ops ps t → vcD P B t gp f S K → Rel N ρ f S.σ.length a → St B ρ S w →
    S₀.W.Le S.W → S₀.σ.length ≤ S.σ.length → (∀ q ks, (q, ks) ∈ gp → ∀ k, k + 1 ∈ ks → k < S.σ.length) → PendOK P B ops gp sp S ρ →
    Canon P ops (fun a w => ∃ f S ρ, S₀.W.Le S.W ∧ S₀.σ.length ≤ S.σ.length ∧ Rel N ρ f S.σ.length a ∧ St B ρ S w ∧ K f S) t sp a w
  | .nil, gp, sp, f, S, ρ, a, w, S₀, _, hv, hrel, hst, hl, hn, _, _ => ⟨f, S, ρ, hl, hn, hrel, hst, hv⟩
  | .both x y, gp, sp, f, S, ρ, a, w, S₀, ht, hv, hrel, hst, hl, hn, hg, hp => ⟨canon_of_vc ht.1 hv.1 hrel hst hl hn hg hp, canon_of_vc ht.2 hv.2 hrel hst hl hn hg hp⟩
  | .op i m r, gp, sp, f, S, ρ, a, w, S₀, ht, hv, hrel, hst, hl, hn, hg, hp => by
    obtain ⟨o, past, ho, hres, hop, _⟩ := resDI_spec ht.1
    refine ⟨o, ho, ?_⟩
    simp only [vcD] at hv
    cases hq : isQ m.op with
    | true =>
      simp only [hq] at hv ⊢
      obtain ⟨hdst, _, _, hd, hgd⟩ := resMI_spec hres
      have go : ∀ (v : Value) (g : GV), v = g.real ρ → g.lt S.σ.length → YW P ops o v a w →
          (∀ (S' : GS) (ρ' : Nat → Nat) (w' : World), St B ρ' S' w' → S.W.Le S'.W → S.σ.length ≤ S'.σ.length → (∀ k, k < S.σ.length → ρ' k = ρ k) → Held (depOf m.op f) S S' → YW P ops o v a w') →
          vcD P B r ((i, depOf m.op f) :: gp) (putF f m.dst g) S K →
          ∃ v, YW P ops o v a w ∧ Canon P ops (fun a w => ∃ f S ρ, S₀.W.Le S.W ∧ S₀.σ.length ≤ S.σ.length ∧ Rel N ρ f S.σ.length a ∧ St B ρ S w ∧ K f S) r ((i, v, a) :: sp) (a.put o.dst v) w := by
        intro v g hvg hglt hy hstay hk
        rw [hdst] at hk
        refine ⟨v, hy, canon_of_vc ht.2 hk ?_ hst hl hn ?_ ?_⟩
        · rw [hvg]; exact hrel.put hd hglt
        · intro q ks hm k hkk
          rcases List.mem_cons.1 hm with e | hm
          · simp only [Prod.mk.injEq] at e
            rw [e.2] at hkk
            exact depOf_lt hrel.lt k hkk
          · exact hg q ks hm k hkk
        · intro p hpm
          rcases List.mem_cons.1 hpm with rfl | hpm
          · exact ⟨_, o, List.mem_cons_self .., ho, hstay⟩
          · obtain ⟨ks, oq, h1, h2, h3⟩ := hp p hpm
            exact ⟨ks, oq, List.mem_cons_of_mem _ h1, h2, h3⟩
      have yes : Region.wanted o (yielded ops a.tmps) = true → (vcOp P B m.op f [] S fun g S' => vcD P B r ((i, depOf m.op f) :: gp) (putF f m.dst g) S' K) →
          ∃ v, YW P ops o v a w ∧ Canon P ops (fun a w => ∃ f S ρ, S₀.W.Le S.W ∧ S₀.σ.length ≤ S.σ.length ∧ Rel N ρ f S.σ.length a ∧ St B ρ S w ∧ K f S) r ((i, v, a) :: sp) (a.put o.dst v) w := by
        intro hw hvc
        obtain ⟨g, hK, hqk⟩ := vcOp_quiet (o := o) hop.symm hq hvc hrel.lt hst.cells
        refine go (g.real ρ) g rfl hqk.lt (.inl ⟨hw, hqk.run ρ S w a.eval hst (PW.Le.refl _) (Held.refl _ _) (fun x _ => hrel.eval x)⟩) (fun S' ρ' w' h1 h2 h3 h4 h5 => .inl ⟨hw, ?_⟩) hK
        rw [← GV.real_congr h4 hqk.lt]
        exact hqk.run ρ' S' w' a.eval h1 h2 (by rw [← hop]; exact h5) fun x _ => (hrel.eval x).trans (GV.real_congr h4 (hrel.evG_lt x)).symm
      have no : Region.wanted o (yielded ops a.tmps) = false → (vcD P B r ((i, depOf m.op f) :: gp) (putF f m.dst (.v undef)) S K) →
          ∃ v, YW P ops o v a w ∧ Canon P ops (fun a w => ∃ f S ρ, S₀.W.Le S.W ∧ S₀.σ.length ≤ S.σ.length ∧ Rel N ρ f S.σ.length a ∧ St B ρ S w ∧ K f S) r ((i, v, a) :: sp) (a.put o.dst v) w :=
        fun hw hk => go undef (.v undef) rfl trivial (.inr ⟨hw, rfl⟩) (fun _ _ _ _ _ _ _ _ => .inr ⟨hw, rfl⟩) hk
      rcases vcMI_cases hv with ⟨h1, hv⟩ | ⟨s, want, b, h1, hb, hv⟩ | ⟨s, want, vs, h1, hb, hv⟩
      · rcases hgd with ⟨hgn, _⟩ | ⟨j, want, s, _, _, hgn⟩
        · exact yes (wanted_none hgn) hv
        · rw [h1] at hgn; cases hgn
      · rcases hgd with ⟨_, hgn⟩ | ⟨j, want', s', hgo, hs, hgn⟩
        · rw [hgn] at h1; cases h1
        · rw [h1] at hgn
          simp only [Option.some.injEq, Prod.mk.injEq] at hgn
          obtain ⟨rfl, rfl⟩ := hgn
          have hbv := hrel.val s
          rw [hb] at hbv
          have hw := wanted_bool hgo hs hbv
          rcases hv with ⟨rfl, hv⟩ | ⟨hne, hv⟩
          · exact yes (by rw [hw]; simp) hv
          · exact no (by rw [hw]; simpa using hne) hv
      · rcases hgd with ⟨_, hgn⟩ | ⟨j, want', s', hgo, hs, hgn⟩
        · rw [hgn] at h1; cases h1
        · rw [h1] at hgn
          simp only [Option.some.injEq, Prod.mk.injEq] at hgn
          obtain ⟨rfl, rfl⟩ := hgn
          have hbv := hrel.val s
          rw [hb] at hbv
          exact no (wanted_tuple hgo hs hbv) hv
    | false =>
      simp only [hq] at hv ⊢
      have hpl : ∀ k, k + 1 ∈ protOf m gp → k < S.σ.length := fun k hk => by
        obtain ⟨q, ks, h1, h2⟩ := protOf_sub hk; exact hg q ks h1 k h2
      have hs := step_MI hres hrel hst hpl hv
      have next : ∀ v w', FR B N (protOf m gp) S ρ (fun f' S' => vcD P B r gp f' S' K) (a.put o.dst v) w' →
          (∀ p ∈ sp.filter (fun p => !m.past.contains p.1), ∃ oq, ops[p.1]? = some oq ∧ YW P ops oq p.2.1 p.2.2 w') ∧
          Canon P ops (fun a w => ∃ f S ρ, S₀.W.Le S.W ∧ S₀.σ.length ≤ S.σ.length ∧ Rel N ρ f S.σ.length a ∧ St B ρ S w ∧ K f S) r (sp.filter fun p => !m.past.contains p.1) (a.put o.dst v) w' := by
        rintro v w' ⟨f', S', ρ', h1, h2, h3, h4, h5⟩
        have keep : ∀ p ∈ sp.filter (fun p => !m.past.contains p.1), ∃ ks oq, (p.1, ks) ∈ gp ∧ ops[p.1]? = some oq ∧ Held ks S S' ∧ ∀ (S' : GS) (ρ' : Nat → Nat) (w' : World), St B ρ' S' w' → S.W.Le S'.W → S.σ.length ≤ S'.σ.length → (∀ k, k < S.σ.length → ρ' k = ρ k) →
            Held ks S S' → YW P ops oq p.2.1 p.2.2 w' := by
          intro p hpm
          obtain ⟨hpm, hnp⟩ := List.mem_filter.1 hpm
          obtain ⟨ks, oq, g1, g2, g3⟩ := hp p hpm
          exact ⟨ks, oq, g1, g2, ⟨fun k hk => h3.prot.var k (protOf_mem g1 (by simpa using hnp) _ hk), fun h0 => h3.prot.own (protOf_mem g1 (by simpa using hnp) _ h0)⟩, g3⟩
        refine ⟨fun p hpm => ?_, canon_of_vc ht.2 h5 h1 h4 (hl.trans h3.le) (Nat.le_trans hn h3.len) (fun q ks hm k hk => Nat.lt_of_lt_of_le (hg q ks hm k hk) h3.len) fun p hpm => ?_⟩
        · obtain ⟨ks, oq, g1, g2, g3, g4⟩ := keep p hpm
          exact ⟨oq, g2, g4 S' ρ' w' h4 h3.le h3.len h2 g3⟩
        · obtain ⟨ks, oq, g1, g2, g3, g4⟩ := keep p hpm
          exact ⟨ks, oq, g1, g2, fun S'' ρ'' w'' k1 k2 k3 k4 k5 => g4 S'' ρ'' w'' k1 (h3.le.trans k2) (Nat.le_trans h3.len k3) (fun k hk => (k4 k (Nat.lt_of_lt_of_le hk h3.len)).trans (h2 k hk)) (g3.trans k5)⟩
      refine ⟨fun hw => ?_, fun hw => next _ _ (hs.2 hw)⟩
      have := hs.1 hw
      revert this
      generalize (execOp a.eval o).run P w = r'
      intro this
      cases r' with
      | ok n w' =>
        cases n <;> simp only [OpPost] at this ⊢
        case value v => exact next _ _ this
        case skip => exact next _ _ this
        case enter fid args => exact this.mono fun e w'' ⟨v, he, hr⟩ => ⟨v, he, next _ _ hr⟩
      | halt x w' => exact this.elim

theorem draw_sound (hmix : P.follows .mixedOrders = true) {id : Nat} {t : DT} (hres : resDraw P N ops = some t) {S₀ S : GS} {K : Ex → Fr → GS → Prop} {f : Fr} {ρ : Nat → Nat} {a : Act} {w : World}
    (hl : S₀.W.Le S.W) (hn : S₀.σ.length ≤ S.σ.length) (hrel : Rel N ρ f S.σ.length a) (hst : St B ρ S w) (hv : vcD P B t [] f S (K .normal)) : (Code.region id ops true).wp P (Qrel B N S₀ K) a w := by
  simp only [resDraw] at hres
  obtain ⟨hb, ht⟩ := bif_some hres
  simp only [Bool.and_eq_true] at hb
  have g := good_of (ops := ops) rfl hb.1.1 hb.1.2 hb.2
  refine wp_region_any hmix ?_
  have hst' : St B ρ S w.drew := hst.drew
  have hc := canon_of_vc (S₀ := S₀) (sp := []) (dtree_is _ ht) hv hrel hst' hl hn (fun q ks h => by cases h) (fun p h => by cases h)
  have hs : Sim P ops a [] [] [] a a (Array.replicate ops.size false) w.drew := by
    refine ⟨⟨rfl, rfl, fun _ _ => rfl⟩, ⟨rfl, rfl, fun _ _ => rfl⟩, fun p h => h, List.nodup_nil, List.nodup_nil, by simp, fun i hi => ?_, fun i h => (by cases h), fun i h => (by cases h), fun i h => (by cases h), fun i v h => (by cases h)⟩
    simp [hi, idx]
  obtain ⟨k', E', pend', ac', t', s1, s2, s3, s4⟩ := saturate g ops.size hs ht hc
  exact any_of_canon g (fun i j hj => pasts_sound ops _ _ hj) (Q := Qrel B N S₀ K) ops.size (by simp) s1 s2 s3 s4

end
end Go.Proofs.Ytcgbcbdgjhnlaaa
