/- The conditions are enough: operations with guards, regions, code, functions. -/
import Derived.Test.YtcgbcbdgjhnlaaaOps
namespace Go.Proofs.Ytcgbcbdgjhnlaaa
open Go.RowKit

section
variable {P : Program} {B : Base} {f : Fr} {prot : List Nat} {S : GS} {K : GV → GS → Prop} {ρ : Nat → Nat} {w : World} {ev : Operand → Value}

theorem vcOp_sound {o : Oper} (hvc : vcOp P B (resOp P o) f prot S K) (hlt : ∀ i, (f i).lt S.σ.length) (hev : ∀ x, ev x = (evG f x).real ρ) (hst : St B ρ S w) (hp : ∀ k, k + 1 ∈ prot → k < S.σ.length) :
    OpPost P ((execOp ev o).run P w) (OpR B prot S K ρ) := by
  cases hq : isQ (resOp P o) with
  | true =>
    obtain ⟨g, hK, hg⟩ := vcOp_quiet rfl hq hvc hlt hst.cells
    rw [hg.run ρ S w ev hst (PW.Le.refl _) (Held.refl _ _) (fun x _ => hev x)]
    exact ⟨g, S, ρ, rfl, fun _ _ => rfl, Grow.refl _ _, hg.lt, hst, hK⟩
  | false =>
    have raw : ∀ o', o = o' → vcOp P B (.raw o') f prot S K → OpPost P ((execOp ev o).run P w) (OpR B prot S K ρ) := by
      intro o' he hr
      subst he
      simp only [vcOp] at hr
      obtain ⟨g, S', ρ', w', hrun, h1, h2, h3, h4, h5⟩ := hr.run ρ w ev hev hst
      rw [hrun]
      exact ⟨g, S', ρ', rfl, h1, h2, h3, h4, h5⟩
    generalize hm : resOp P o = m at hq hvc
    obtain ⟨dst, op, type, pos, after, guard⟩ := o
    cases op with
    | store t a x =>
      simp only [resOp] at hm
      split at hm
      · rename_i i hi; subst hm; exact o_store hi hvc hlt hev hst
      · subst hm; exact raw _ rfl hvc
    | alloc e =>
      simp only [resOp] at hm
      split at hm
      · rename_i i hi
        split at hm
        · rename_i z hz; subst hm; exact o_alloc hi hz hvc hst hp
        · subst hm; exact raw _ rfl hvc
      · subst hm; exact raw _ rfl hvc
    | box e x => simp only [resOp] at hm; subst hm; exact o_box hvc hlt hev hst hp
    | buildSlice t len parts =>
      simp only [resOp] at hm
      split at hm
      · rename_i e hu
        split at hm
        · rename_i i hi
          split at hm
          · rename_i z hz
            cases hb : ((Nat.beq z.cells.size i.size && !Nat.beq i.size 0) && !Nat.beq len 0) <;> simp only [hb, cond_true, cond_false] at hm <;> subst hm
            · exact raw _ rfl hvc
            · rw [Bool.and_eq_true] at hb
              exact o_bslice hu hi hz hb.1 (by simpa using hb.2) hvc hev hst
          · subst hm; exact raw _ rfl hvc
        · subst hm; exact raw _ rfl hvc
      · subst hm; exact raw _ rfl hvc
    | makeSlice t l c =>
      simp only [resOp] at hm
      split at hm
      · rename_i e hu
        split at hm
        · rename_i i hi
          split at hm
          · rename_i z hz
            cases hb : (Nat.beq z.cells.size i.size && !Nat.beq i.size 0) <;> simp only [hb, cond_true, cond_false] at hm <;> subst hm
            · exact raw _ rfl hvc
            · exact o_mkslice hu hi hz hb hvc hev hst
          · subst hm; exact raw _ rfl hvc
        · subst hm; exact raw _ rfl hvc
      · subst hm; exact raw _ rfl hvc
    | call c =>
      obtain ⟨callee, args, argTypes⟩ := c
      cases callee with
      | value x =>
        cases x with
        | func fid => simp only [resOp] at hm; subst hm; exact o_call hvc hev hst
        | tmp t => simp only [resOp] at hm; subst hm; exact o_callv hvc hev hst
        | const v => simp only [resOp] at hm; subst hm; exact o_callv hvc hev hst
        | global g => simp only [resOp] at hm; subst hm; exact o_callv hvc hev hst
      | invoke r n => simp only [resOp] at hm; subst hm; exact raw _ rfl hvc
      | builtin b =>
        cases b <;> simp only [resOp] at hm <;> try (subst hm; exact raw _ rfl hvc)
        case len =>
          split at hm
          · split at hm <;> subst hm <;> first | exact raw _ rfl hvc | cases hq
          · subst hm; exact raw _ rfl hvc
        case append =>
          split at hm
          · rename_i d s t u ha ht
            cases hb : Nat.beq t u <;> simp only [hb, cond_true, cond_false] at hm
            · subst hm; exact raw _ rfl hvc
            · have htu := Nat.eq_of_beq_eq_true hb
              subst htu
              have ha' : args = #[d, s] := by rw [← Array.toList_inj]; exact ha
              have ht' : argTypes = #[t, t] := by rw [← Array.toList_inj]; exact ht
              subst ha' ht'
              split at hm
              · rename_i e hu
                split at hm
                · rename_i i hi
                  split at hm
                  · rename_i z hz
                    cases hb2 : (Nat.beq z.cells.size i.size && !Nat.beq i.size 0) <;> simp only [hb2, cond_true, cond_false] at hm <;> subst hm
                    · exact raw _ rfl hvc
                    · exact o_append hu hi hz hb2 hvc hev hst
                  · subst hm; exact raw _ rfl hvc
                · subst hm; exact raw _ rfl hvc
              · subst hm; exact raw _ rfl hvc
          · subst hm; exact raw _ rfl hvc
    | move x =>
      simp only [resOp] at hm
      repeat' split at hm
      all_goals first
        | (subst hm; exact raw _ rfl hvc)
        | (subst hm; cases hq; done)
        | (rcases bif_cases hm with hm | hm <;> subst hm <;> first | exact raw _ rfl hvc | cases hq)
    | assign x =>
      simp only [resOp] at hm
      repeat' split at hm
      all_goals first
        | (subst hm; exact raw _ rfl hvc)
        | (subst hm; cases hq; done)
        | (rcases bif_cases hm with hm | hm <;> subst hm <;> first | exact raw _ rfl hvc | cases hq)
    | pick c a b =>
      simp only [resOp] at hm
      repeat' split at hm
      all_goals first
        | (subst hm; exact raw _ rfl hvc)
        | (subst hm; cases hq; done)
        | (rcases bif_cases hm with hm | hm <;> subst hm <;> first | exact raw _ rfl hvc | cases hq)
    | nilCheck x =>
      simp only [resOp] at hm
      repeat' split at hm
      all_goals first
        | (subst hm; exact raw _ rfl hvc)
        | (subst hm; cases hq; done)
        | (rcases bif_cases hm with hm | hm <;> subst hm <;> first | exact raw _ rfl hvc | cases hq)
    | fieldAddr s x i =>
      simp only [resOp] at hm
      repeat' split at hm
      all_goals first
        | (subst hm; exact raw _ rfl hvc)
        | (subst hm; cases hq; done)
        | (rcases bif_cases hm with hm | hm <;> subst hm <;> first | exact raw _ rfl hvc | cases hq)
    | load t a =>
      simp only [resOp] at hm
      repeat' split at hm
      all_goals first
        | (subst hm; exact raw _ rfl hvc)
        | (subst hm; cases hq; done)
        | (rcases bif_cases hm with hm | hm <;> subst hm <;> first | exact raw _ rfl hvc | cases hq)
    | build t parts =>
      simp only [resOp] at hm
      repeat' split at hm
      all_goals first
        | (subst hm; exact raw _ rfl hvc)
        | (subst hm; cases hq; done)
        | (rcases bif_cases hm with hm | hm <;> subst hm <;> first | exact raw _ rfl hvc | cases hq)
    | indexAddr t x i =>
      simp only [resOp] at hm
      repeat' split at hm
      all_goals first
        | (subst hm; exact raw _ rfl hvc)
        | (subst hm; cases hq; done)
        | (rcases bif_cases hm with hm | hm <;> subst hm <;> first | exact raw _ rfl hvc | cases hq)
    | index t x i =>
      simp only [resOp] at hm
      repeat' split at hm
      all_goals first
        | (subst hm; exact raw _ rfl hvc)
        | (subst hm; cases hq; done)
        | (rcases bif_cases hm with hm | hm <;> subst hm <;> first | exact raw _ rfl hvc | cases hq)
    | field t x i =>
      simp only [resOp] at hm
      repeat' split at hm
      all_goals first
        | (subst hm; exact raw _ rfl hvc)
        | (subst hm; cases hq; done)
        | (rcases bif_cases hm with hm | hm <;> subst hm <;> first | exact raw _ rfl hvc | cases hq)
    | binOp op t x y yt =>
      simp only [resOp] at hm
      repeat' split at hm
      all_goals first
        | (subst hm; exact raw _ rfl hvc)
        | (subst hm; cases hq; done)
        | (rcases bif_cases hm with hm | hm <;> subst hm <;> first | exact raw _ rfl hvc | cases hq)
    | convert src t x =>
      simp only [resOp] at hm
      split at hm
      · subst hm; cases hq
      · subst hm; cases hq
      · rename_i e h1 h2
        split at hm
        · rename_i he; subst hm; exact o_s2b h1 h2 he hvc hev hst
        · subst hm; exact raw _ rfl hvc
      · split at hm <;> subst hm <;> first | exact raw _ rfl hvc | cases hq
      · subst hm; exact raw _ rfl hvc
    | extract x i =>
      simp only [resOp] at hm
      repeat' split at hm
      all_goals first
        | (subst hm; exact raw _ rfl hvc)
        | (subst hm; cases hq; done)
        | (rcases bif_cases hm with hm | hm <;> subst hm <;> first | exact raw _ rfl hvc | cases hq)
    | slice t x lo hi mx =>
      cases mx <;> simp only [resOp] at hm
      all_goals repeat' split at hm
      all_goals first
        | (subst hm; exact raw _ rfl hvc)
        | (subst hm; cases hq; done)
        | (rcases bif_cases hm with hm | hm <;> subst hm <;> first | exact raw _ rfl hvc | cases hq)
    | unOp u t x =>
      cases u <;> simp only [resOp] at hm
      all_goals first
        | (subst hm; exact raw _ rfl hvc)
        | (subst hm; cases hq; done)
        | (rcases bif_cases hm with hm | hm <;> subst hm <;> first | exact raw _ rfl hvc | cases hq)
    | makeFunc fn first caps =>
      cases fn <;> simp only [resOp] at hm
      all_goals repeat' split at hm
      all_goals first
        | (subst hm; exact raw _ rfl hvc)
        | (subst hm; cases hq; done)
        | (rcases bif_cases hm with hm | hm <;> subst hm <;> first | exact raw _ rfl hvc | cases hq)
    | _ => simp only [resOp] at hm; subst hm; exact raw _ rfl hvc

end
end Go.Proofs.Ytcgbcbdgjhnlaaa
