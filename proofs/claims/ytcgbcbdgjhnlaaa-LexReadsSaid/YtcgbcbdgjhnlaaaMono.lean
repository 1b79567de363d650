/- Conditions under a weaker goal; which slots code may change. -/
import Derived.Test.YtcgbcbdgjhnlaaaCode
namespace Go.Proofs.Ytcgbcbdgjhnlaaa
open Go.RowKit

section
variable {P : Program} {B : Base}

theorem Branch.mono {b : Bool} {X Y X' Y' : Prop} (h1 : X → X') (h2 : Y → Y') (h : Branch X Y b) : Branch X' Y' b := by
  cases b
  · exact h2 h
  · exact h1 h

theorem intVC_mono {op : BinOp} {k : IntKind} {a b : Int} {K K' : GV → Prop} (h : ∀ g, K g → K' g) (hv : intVC op k a b K) : intVC op k a b K' := by
  cases op <;> simp only [intVC] at hv ⊢ <;> first
    | exact h _ hv
    | (obtain ⟨r, h1, h2⟩ := hv; exact ⟨r, h1, h _ h2⟩)
    | (obtain ⟨h0, r, h1, h2⟩ := hv; exact ⟨h0, r, h1, h _ h2⟩)
    | (obtain ⟨h1, h2⟩ := hv; exact ⟨h1, h _ h2⟩)
theorem strVC_mono {op : BinOp} {a b : ByteArray} {K K' : GV → Prop} (h : ∀ g, K g → K' g) (hv : strVC op a b K) : strVC op a b K' := by
  cases op <;> simp only [strVC] at hv ⊢ <;> first
    | exact h _ hv
    | (obtain ⟨h1, h2⟩ := hv; exact ⟨h1, h _ h2⟩)

theorem CallVC.mono {fid : FuncId} {args : List GV} {prot : List Nat} {S : GS} {K K' : GV → GS → Prop} (h : ∀ g S', K g S' → K' g S') (hv : CallVC P B fid args prot S K) : CallVC P B fid args prot S K' :=
  ⟨hv.callable, fun ρ w hst => (hv.run ρ w hst).mono fun _ _ ⟨g, S', ρ', h1, h2, h3, h4, h5, h6⟩ => ⟨g, S', ρ', h1, h2, h3, h4, h5, h _ _ h6⟩⟩

theorem vcOp_mono {m : M} {f : Fr} {prot : List Nat} {S : GS} {K K' : GV → GS → Prop} (h : ∀ g S', K g S' → K' g S') (hv : vcOp P B m f prot S K) : vcOp P B m f prot S K' := by
  cases m with
  | raw o => exact ⟨fun ρ w ev hev hst => let ⟨g, S', ρ', w', h1, h2, h3, h4, h5, h6⟩ := RawVC.run hv ρ w ev hev hst; ⟨g, S', ρ', w', h1, h2, h3, h4, h5, h _ _ h6⟩⟩
  | call fid args => exact CallVC.mono h hv
  | callv x args =>
    simp only [vcOp] at hv ⊢
    split at hv <;> first | exact CallVC.mono h hv | exact hv.elim
  | pick c a b =>
    simp only [vcOp] at hv ⊢
    split at hv
    · exact Branch.mono (h _ _) (h _ _) hv
    · exact hv.elim
  | append e sz bytes d s =>
    simp only [vcOp] at hv ⊢
    split at hv
    · obtain ⟨i, o, news, h1, h2, h3, h4, h5, h6, h7, h8, h9, h0, h10⟩ := hv
      exact ⟨i, o, news, h1, h2, h3, h4, h5, h6, h7, h8, h9, h0, fun A c => h _ _ (h10 A c)⟩
    · exact hv.elim
  | ib op x y =>
    simp only [vcOp] at hv ⊢
    split at hv
    · cases hs : isSh op <;> rw [hs] at hv
      · exact ⟨hv.1, intVC_mono (fun g => h g S) hv.2⟩
      · obtain ⟨h1, r, h2, h3⟩ := hv; exact ⟨h1, r, h2, h _ _ h3⟩
    · exact hv.elim
  | sb op x y =>
    simp only [vcOp] at hv ⊢
    split at hv
    · exact strVC_mono (fun g => h g S) hv
    · exact hv.elim
  | st n a x =>
    simp only [vcOp] at hv ⊢
    repeat' (split at hv)
    all_goals first
      | exact h _ _ hv
      | exact hv.elim
      | (rw [forceP_eq] at hv ⊢; exact h _ _ hv)
      | (obtain ⟨i, o, b, q, c, j, h1, h2, h3, h4, h5, h6, h7, h8⟩ := hv
         exact ⟨i, o, b, q, c, j, h1, h2, h3, h4, h5, h6, h7, h _ _ h8⟩)
  | slV3 sz x lo hi mx =>
    simp only [vcOp] at hv ⊢
    split at hv
    · split at hv
      · exact ⟨hv.1, h _ _ hv.2⟩
      · exact hv.elim
    · exact hv.elim
  | s2b e x =>
    simp only [vcOp] at hv ⊢
    split at hv
    · exact ⟨hv.1, fun b c W' h1 h2 h3 h4 => h _ _ (hv.2 b c W' h1 h2 h3 h4)⟩
    · exact hv.elim
  | slV sz x lo hi =>
    simp only [vcOp] at hv ⊢
    split at hv
    · split at hv
      · exact ⟨hv.1, h _ _ hv.2⟩
      · exact hv.elim
    · exact hv.elim
  | maxI x y =>
    simp only [vcOp] at hv ⊢
    split at hv
    · exact ⟨hv.1, h _ _ hv.2⟩
    · exact hv.elim
  | _ =>
    simp only [vcOp] at hv ⊢
    repeat' (split at hv)
    all_goals first
      | exact h _ _ hv
      | exact hv.elim
      | (rw [forceP_eq] at hv ⊢; exact h _ _ hv)
      | (obtain ⟨a, b⟩ := hv; exact ⟨a, h _ _ b⟩)
      | (obtain ⟨a, b, c⟩ := hv; exact ⟨a, b, h _ _ c⟩)
      | (obtain ⟨a, b, c, d⟩ := hv; exact ⟨a, b, c, h _ _ d⟩)
      | (obtain ⟨a, b⟩ := hv; exact ⟨a, fun x => h _ _ (b x)⟩)
      | (obtain ⟨a, b⟩ := hv; exact ⟨a, fun x y z u => h _ _ (b x y z u)⟩)
      | (obtain ⟨a, b⟩ := hv
         refine ⟨a, ?_⟩
         repeat' (split at b)
         all_goals first | exact h _ _ b | exact b.elim)

theorem upd_eq {f : Fr} {s : Nat} {g : GV} (h : f s = g) : upd f s g = f := by
  funext i
  by_cases hi : i = s
  · subst hi; rw [upd_same, h]
  · rw [upd_other f _ hi]

/-- One operation: where it may come to, whatever the guard says. -/
theorem vcMI_cases {mi : MI} {f : Fr} {prot : List Nat} {S : GS} {K : Fr → GS → Prop} (hv : vcMI P B mi f prot S K) :
    (mi.guard = none ∧ vcOp P B mi.op f prot S fun g S' => K (putF f mi.dst g) S') ∨
    (∃ s want b, mi.guard = some (s, want) ∧ f s = .v (.bool b) ∧ ((b = want ∧ vcOp P B mi.op f prot S fun g S' => K (putF f mi.dst g) S') ∨ (b ≠ want ∧ K (putF f mi.dst (.v undef)) S))) ∨
    (∃ s want vs, mi.guard = some (s, want) ∧ f s = .v (.tuple vs) ∧ K (putF f mi.dst (.v undef)) S) := by
  unfold vcMI at hv
  split at hv
  · rename_i h; exact .inl ⟨h, hv⟩
  · rename_i s want h
    split at hv
    · rename_i b hb
      refine .inr (.inl ⟨s, want, b, h, hb, ?_⟩)
      cases b
      · have e := upd_eq hb
        simp only [Branch, e] at hv
        cases want
        · exact .inl ⟨rfl, hv⟩
        · exact .inr ⟨by simp, hv⟩
      · have e := upd_eq hb
        simp only [Branch, e] at hv
        cases want
        · exact .inr ⟨by simp, hv⟩
        · exact .inl ⟨rfl, hv⟩
    · rename_i vs hb; exact .inr (.inr ⟨s, want, vs, h, hb, hv⟩)
    · exact hv.elim

theorem vcMI_mk {mi : MI} {f : Fr} {prot : List Nat} {S : GS} {K : Fr → GS → Prop}
    (hv : (mi.guard = none ∧ vcOp P B mi.op f prot S fun g S' => K (putF f mi.dst g) S') ∨
    (∃ s want b, mi.guard = some (s, want) ∧ f s = .v (.bool b) ∧ ((b = want ∧ vcOp P B mi.op f prot S fun g S' => K (putF f mi.dst g) S') ∨ (b ≠ want ∧ K (putF f mi.dst (.v undef)) S))) ∨
    (∃ s want vs, mi.guard = some (s, want) ∧ f s = .v (.tuple vs) ∧ K (putF f mi.dst (.v undef)) S)) : vcMI P B mi f prot S K := by
  unfold vcMI
  rcases hv with ⟨h, hv⟩ | ⟨s, want, b, h, hb, hv⟩ | ⟨s, want, vs, h, hb, hv⟩
  · rw [h]; exact hv
  · rw [h]; simp only [hb]
    have e := upd_eq hb
    rcases hv with ⟨rfl, hv⟩ | ⟨hne, hv⟩
    · cases b <;> simp only [Branch, e] <;> exact hv
    · cases b <;> cases want <;> first | exact absurd rfl hne | (simp only [Branch, e]; exact hv)
  · rw [h]; simp only [hb]; exact hv

def putIn (wr : List (Nat × Nat)) (d : Option Nat) : Prop := ∀ x, d = some x → inR wr x = true
theorem putF_out {wr : List (Nat × Nat)} {d : Option Nat} (h : putIn wr d) (f : Fr) (g : GV) {i : Nat} (hi : inR wr i = false) : putF f d g i = f i := by
  cases d with
  | none => rfl
  | some d =>
    refine upd_other f g fun e => ?_
    subst e
    rw [h _ rfl] at hi; cases hi

theorem vcMI_frame {mi : MI} {f : Fr} {prot : List Nat} {S : GS} {K K' : Fr → GS → Prop} {wr : List (Nat × Nat)} (hd : putIn wr mi.dst)
    (h : ∀ f' S', K f' S' → (∀ i, inR wr i = false → f' i = f i) → K' f' S') (hv : vcMI P B mi f prot S K) : vcMI P B mi f prot S K' := by
  have hp : ∀ g S', K (putF f mi.dst g) S' → K' (putF f mi.dst g) S' := fun g S' hk => h _ _ hk fun i hi => putF_out hd f g hi
  refine vcMI_mk ?_
  rcases vcMI_cases hv with ⟨h1, hv⟩ | ⟨s, want, b, h1, hb, hv⟩ | ⟨s, want, vs, h1, hb, hv⟩
  · exact .inl ⟨h1, vcOp_mono hp hv⟩
  · refine .inr (.inl ⟨s, want, b, h1, hb, ?_⟩)
    rcases hv with ⟨h2, hv⟩ | ⟨h2, hv⟩
    · exact .inl ⟨h2, vcOp_mono hp hv⟩
    · exact .inr ⟨h2, hp _ _ hv⟩
  · exact .inr (.inr ⟨s, want, vs, h1, hb, hp _ _ hv⟩)

/-! ### Slots that code writes -/
def insMI (wr : List (Nat × Nat)) (mi : MI) : Prop := putIn wr mi.dst
def inD (wr : List (Nat × Nat)) : DT → Prop
  | .nil => True
  | .op _ m r => putIn wr m.dst ∧ inD wr r
  | .both a b => inD wr a ∧ inD wr b
/-- Code writes slots of 'wr' alone; and so does each loop in it, of its own. -/
def inC (wr : List (Nat × Nat)) : MC → Prop
  | .ops l => ∀ m ∈ l, putIn wr m.dst
  | .dops t => inD wr t
  | .seq a b => inC wr a ∧ inC wr b
  | .cond _ a b => inC wr a ∧ inC wr b
  | .block _ a => inC wr a
  | .loop w a => inC wr a ∧ inC w a ∧ ∀ i, inR w i = true → inR wr i = true
  | .scope a => inC wr a
  | _ => True

theorem vcOps_frame {wr : List (Nat × Nat)} : ∀ {l : List MI} {f : Fr} {S : GS} {K K' : Fr → GS → Prop}, (∀ m ∈ l, putIn wr m.dst) →
    (∀ f' S', K f' S' → (∀ i, inR wr i = false → f' i = f i) → K' f' S') → vcOps P B l f S K → vcOps P B l f S K'
  | [], f, S, K, K', _, h, hv => h f S hv fun _ _ => rfl
  | m :: r, f, S, K, K', hd, h, hv => by
    refine vcMI_frame (hd m (List.mem_cons_self ..)) (fun f' S' hk he => ?_) hv
    exact vcOps_frame (fun m hm => hd m (List.mem_cons_of_mem _ hm)) (fun f'' S'' hk2 he2 => h _ _ hk2 fun i hi => (he2 i hi).trans (he i hi)) hk

theorem vcD_frame {wr : List (Nat × Nat)} : ∀ {t : DT} {pend : List (Nat × List Nat)} {f : Fr} {S : GS} {K K' : Fr → GS → Prop}, inD wr t →
    (∀ f' S', K f' S' → (∀ i, inR wr i = false → f' i = f i) → K' f' S') → vcD P B t pend f S K → vcD P B t pend f S K'
  | .nil, _, f, S, K, K', _, h, hv => h f S hv fun _ _ => rfl
  | .op i m r, pend, f, S, K, K', hd, h, hv => by
    simp only [vcD] at hv ⊢
    cases hq : isQ m.op <;> simp only [hq] at hv ⊢
    all_goals
      refine vcMI_frame hd.1 (fun f' S' hk he => ?_) hv
      exact vcD_frame hd.2 (fun f'' S'' hk2 he2 => h _ _ hk2 fun i hi => (he2 i hi).trans (he i hi)) hk
  | .both a b, pend, f, S, K, K', hd, h, hv => ⟨vcD_frame hd.1 h hv.1, vcD_frame hd.2 h hv.2⟩

theorem setL_out {wr : List (Nat × Nat)} {i : Nat} (hi : inR wr i = false) : ∀ {l : List (Nat × GV)} {f : Fr}, (∀ p ∈ l, inR wr p.1 = true) → setL l f i = f i
  | [], _, _ => rfl
  | (d, g) :: r, f, h => by
    have hd : i ≠ d := fun e => by
      subst e
      have h1 := h (i, g) (List.mem_cons_self ..)
      rw [h1] at hi; cases hi
    simp only [setL]
    rw [upd_other _ _ hd]
    exact setL_out hi fun p hp => h p (List.mem_cons_of_mem _ hp)

theorem vc_frame {wr : List (Nat × Nat)} : ∀ {c : MC} {f : Fr} {S : GS} {K K' : Ex → Fr → GS → Prop}, inC wr c →
    (∀ e f' S', K e f' S' → (∀ i, inR wr i = false → f' i = f i) → K' e f' S') → vc P B c f S K → vc P B c f S K'
  | .skip, f, S, K, K', _, h, hv => h _ f S hv fun _ _ => rfl
  | .ops l, f, S, K, K', hi, h, hv => vcOps_frame hi (h .normal) hv
  | .dops t, f, S, K, K', hi, h, hv => vcD_frame hi (h .normal) hv
  | .seq a b, f, S, K, K', hi, h, hv => by
    refine vc_frame (c := a) hi.1 (fun e f' S' hk he => ?_) hv
    cases e with
    | normal => exact vc_frame hi.2 (fun e f'' S'' hk2 he2 => h _ _ _ hk2 fun i hi => (he2 i hi).trans (he i hi)) hk
    | exit id => exact h _ _ _ hk he
    | ret => exact h _ _ _ hk he
  | .cond c a b, f, S, K, K', hi, h, hv => by
    simp only [vc] at hv ⊢
    split at hv
    · exact Branch.mono (vc_frame hi.1 h) (vc_frame hi.2 h) hv
    · exact hv.elim
  | .block id a, f, S, K, K', hi, h, hv => by
    refine vc_frame (c := a) hi (fun e f' S' hk he => ?_) hv
    cases e with
    | normal => exact h _ _ _ hk he
    | exit i =>
      dsimp only at hk ⊢
      cases hb : Nat.beq i id <;> rw [hb] at hk <;> exact h _ _ _ hk he
    | ret => exact h _ _ _ hk he
  | .loop w a, f, S, K, K', hi, h, hv => by
    obtain ⟨τ, sl, σ, O, I, μ, t₀, h1, h2, h3, h4, h5, h6⟩ := hv
    refine ⟨τ, sl, σ, O, I, μ, t₀, h1, h2, h3, h4, h5, fun t W hW hI g => ?_⟩
    refine vc_frame hi.1 (fun e f' S' hk he => ?_) (h6 t W hW hI g)
    have hout : ∀ i, inR wr i = false → f' i = f i := fun i hii => by
      rw [he i hii, setL_out hii fun p hp => hi.2.2 _ ((h5 t).1 p hp).2]
      have : inR w i = false := by
        cases hw : inR w i with
        | false => rfl
        | true => rw [hi.2.2 i hw] at hii; cases hii
      simp only [mask, this, cond_false]
    cases e with
    | normal => exact hk
    | exit id => exact h _ _ _ hk hout
    | ret => exact h _ _ _ hk hout
  | .exit id, f, S, K, K', _, h, hv => h _ f S hv fun _ _ => rfl
  | .ret, f, S, K, K', _, h, hv => h _ f S hv fun _ _ => rfl
  | .scope a, f, S, K, K', hi, h, hv => vc_frame (c := a) hi h hv

end
end Go.Proofs.Ytcgbcbdgjhnlaaa
