/- The conditions are enough: every operation that only reads, in one theorem. -/
import Derived.Test.YtcgbcbdgjhnlaaaBuild
namespace Go.Proofs.Ytcgbcbdgjhnlaaa
open Go.RowKit

section
variable {P : Program} {B : Base} {f : Fr} {prot : List Nat} {S : GS} {K : GV → GS → Prop}

theorem mapM_some {fs : List Field} (h : (fs.all fun fd => (P.info? fd.type).isSome) = true) : (fs.mapM (fun fd => (P.info? fd.type).map fun i => (fd.offset, i.size))).isSome = true := by
  induction fs with
  | nil => rfl
  | cons a fs ih =>
    simp only [List.all_cons, Bool.and_eq_true] at h
    obtain ⟨i, hi⟩ := Option.isSome_iff_exists.1 h.1
    obtain ⟨l, hl⟩ := Option.isSome_iff_exists.1 (ih h.2)
    simp [List.mapM_cons, hi, hl]

theorem bif_cases {c : Bool} {x y m : M} (h : (bif c then x else y) = m) : x = m ∨ y = m := by cases c <;> simp_all

theorem vcOp_quiet {o : Oper} {m : M} (hm : resOp P o = m) (hq : isQ m = true) (hvc : vcOp P B m f prot S K) (hlt : ∀ i, (f i).lt S.σ.length)
    (hcl : ∀ (k : Nat) (cs : List PV), S.σ[k]? = some cs → ∀ c ∈ cs, c.lt S.σ.length) : ∃ g, K g S ∧ QOK P B o f S g := by
  have hm0 := hm
  obtain ⟨dst, op, type, pos, after, guard⟩ := o
  cases op with
  | move x => simp only [resOp] at hm; subst hm; exact q_move (.inl rfl) hvc hlt
  | assign x => simp only [resOp] at hm; subst hm; exact q_move (.inr rfl) hvc hlt
  | pick c a b => simp only [resOp] at hm; subst hm; exact q_pick hvc hlt
  | nilCheck x => simp only [resOp] at hm; subst hm; exact q_nilck hvc hlt
  | fieldAddr s x i =>
    simp only [resOp] at hm
    split at hm
    · rename_i fs hu
      split at hm
      · rename_i fd hfd
        split at hm
        · rename_i ti hti
          cases hb : Nat.beq ti.size 0 <;> simp only [hb, cond_true, cond_false] at hm <;> subst hm
          · exact q_faddr hu hfd hti hb hvc hlt
          · cases hq
        · subst hm; cases hq
      · subst hm; cases hq
    · subst hm; cases hq
  | load t x =>
    simp only [resOp] at hm
    split at hm
    · rename_i n h; subst hm; exact q_loadN h (by rw [hm0]) hvc hcl
    · rename_i n h; subst hm; exact q_load1 h (by rw [hm0]) hvc hcl
    · subst hm; cases hq
  | build t parts =>
    simp only [resOp] at hm
    split at hm
    · rename_i fs i hu hi
      split at hm
      · rename_i z l hz hl
        cases hb : (fs.toList.all fun fd => (P.info? fd.type).isSome) <;> simp only [hb, cond_true, cond_false] at hm <;> subst hm
        · cases hq
        · exact q_build hu hi hz (mapM_some hb) hl hvc hlt
      · subst hm; cases hq
    · subst hm; cases hq
  | indexAddr t x i =>
    simp only [resOp] at hm
    split at hm
    · rename_i e hu
      split at hm
      · rename_i ti hti; subst hm; exact q_iaddr hu hti hvc
      · subst hm; cases hq
    · subst hm; cases hq
  | index t x i =>
    simp only [resOp] at hm
    split at hm
    · rename_i hu; subst hm; exact q_index hu hvc
    · subst hm; cases hq
  | field t x i =>
    simp only [resOp] at hm
    split at hm
    · rename_i fs hu
      split at hm
      · rename_i fd hfd
        split at hm
        · rename_i n h; subst hm; exact q_fldN hu hfd h hvc hlt
        · rename_i n h; subst hm; exact q_fld1 hu hfd h hvc hlt
        · subst hm; cases hq
      · subst hm; cases hq
    · subst hm; cases hq
  | slice t x lo hi mx =>
    cases mx with
    | some mx =>
      simp only [resOp] at hm
      split at hm
      · rename_i e hu
        split at hm
        · rename_i ti y hti; subst hm; exact q_slV3 hu hti hvc
        · subst hm; cases hq
      · subst hm; cases hq
    | none =>
      simp only [resOp] at hm
      split at hm
      · rename_i hu; subst hm; exact q_slS hu hvc
      · rename_i e hu
        split at hm
        · rename_i ti hti; subst hm; exact q_slV hu hti hvc
        · subst hm; cases hq
      · subst hm; cases hq
  | binOp op t x y yt =>
    simp only [resOp] at hm
    split at hm
    · subst hm; exact q_int hvc
    · subst hm; exact q_str hvc
    · rename_i hu; subst hm; exact q_bool hu hvc
    · rename_i e hu
      split at hm
      · subst hm; exact q_pnil (neq := false) hu hvc
      · subst hm; exact q_pnil (neq := true) hu hvc
      · subst hm; cases hq
    · rename_i fs hu
      split at hm
      · rename_i ks ss hp
        split at hm
        · subst hm; exact q_eqA (neq := false) hu hp hvc
        · subst hm; exact q_eqA (neq := true) hu hp hvc
        · subst hm; cases hq
      · subst hm; cases hq
    · subst hm; cases hq
  | unOp u t x =>
    cases u <;> simp only [resOp] at hm <;> subst hm
    case not => exact q_not hvc
    all_goals cases hq
  | convert src t x =>
    simp only [resOp] at hm
    split at hm
    · rename_i k' k h1 h2; subst hm; exact q_conv h1 h2 hvc
    · rename_i k' h1 h2; subst hm; exact q_i2s h1 h2 hvc
    · split at hm <;> subst hm <;> cases hq
    · rename_i e h1 h2
      split at hm
      · rename_i he; subst hm; exact q_b2s h1 he h2 (by rw [hm0]) hvc
      · subst hm; cases hq
    · subst hm; cases hq
  | extract x i => simp only [resOp] at hm; subst hm; exact q_ext hvc
  | makeFunc fn first caps =>
    cases fn with
    | func fid =>
      simp only [resOp] at hm
      split at hm
      · rename_i hf; subst hm; exact q_mkfn hf hvc hlt
      · subst hm; cases hq
    | _ => simp only [resOp] at hm; subst hm; cases hq
  | call c =>
    obtain ⟨callee, args, argTypes⟩ := c
    cases callee with
    | value x => cases x <;> simp only [resOp] at hm <;> subst hm <;> cases hq
    | invoke r n => simp only [resOp] at hm; subst hm; cases hq
    | builtin b =>
      cases b <;> simp only [resOp] at hm <;> try (subst hm; cases hq; done)
      case len =>
        split at hm
        · rename_i x t hx ht
          have hx' : args = #[x] := by rw [← Array.toList_inj]; exact hx
          have ht' : argTypes = #[t] := by rw [← Array.toList_inj]; exact ht
          subst hx' ht'
          split at hm
          · rename_i hu; subst hm; exact q_lenS rfl hu hvc
          · rename_i e hu; subst hm; exact q_lenV rfl hu hvc
          · subst hm; cases hq
        · subst hm; cases hq
      case append =>
        split at hm
        · rename_i d s t u _ _
          cases hb : Nat.beq t u <;> simp only [hb, cond_true, cond_false] at hm
          · subst hm; cases hq
          · split at hm
            · split at hm
              · split at hm
                · rcases bif_cases hm with hm | hm <;> subst hm <;> cases hq
                · subst hm; cases hq
              · subst hm; cases hq
            · subst hm; cases hq
        · subst hm; cases hq
  | store t a x =>
    simp only [resOp] at hm
    split at hm <;> subst hm <;> cases hq
  | alloc e =>
    simp only [resOp] at hm
    split at hm
    · split at hm <;> subst hm <;> cases hq
    · subst hm; cases hq
  | box e x => simp only [resOp] at hm; subst hm; cases hq
  | buildSlice t len parts =>
    simp only [resOp] at hm
    split at hm
    · split at hm
      · split at hm
        · rcases bif_cases hm with hm | hm <;> subst hm <;> cases hq
        · subst hm; cases hq
      · subst hm; cases hq
    · subst hm; cases hq
  | makeSlice t l c =>
    simp only [resOp] at hm
    split at hm
    · split at hm
      · split at hm
        · rcases bif_cases hm with hm | hm <;> subst hm <;> cases hq
        · subst hm; cases hq
      · subst hm; cases hq
    · subst hm; cases hq
  | _ => simp only [resOp] at hm; subst hm; cases hq

end
end Go.Proofs.Ytcgbcbdgjhnlaaa
