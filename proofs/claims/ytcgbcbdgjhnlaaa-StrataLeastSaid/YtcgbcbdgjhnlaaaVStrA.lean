/- Layer 18 (strata), walked: maps that stand; the index; relations, sets, absences. -/
import Derived.Test.YtcgbcbdgjhnlaaaVStrP
import Derived.Test.YtcgbcbdgjhnlaaaVCodeSA
import Derived.Test.YtcgbcbdgjhnlaaaVCutB
import Derived.Maps.OwnSet
import Derived.Maps.OwnOps
import Derived.Maps.Views
import Derived.DeepKeys4
import Derived.ChangeKeys
namespace Go.Proofs.Ytcgbcbdgjhnlaaa
open Go.RowKit Go.Maps

def spotC (s : Spot) : List Value := [.int .i64 s.1, .int .i64 s.2]
def spotR : Value → Option (DataW Unit × List MemPlace)
  | .agg ⟨[.int .i64 a, .int .i64 b]⟩ => some (.agg [.lit (.int .i64 a), .lit (.int .i64 b)], [])
  | _ => none
def spotD (s : Spot) : DataW Unit := .agg [.lit (.int .i64 s.1), .lit (.int .i64 s.2)]
theorem spotR_inv {v : Value} {s : Spot} {ps : List MemPlace} (h : spotR v = some (spotD s, ps)) : v = .agg ⟨spotC s⟩ := by
  unfold spotR at h
  split at h
  · simp only [spotD, Option.some.injEq, Prod.mk.injEq, DataW.agg.injEq, List.cons.injEq, DataW.lit.injEq, Lit.int.injEq, true_and, and_true] at h
    obtain ⟨⟨rfl, rfl⟩, _⟩ := h
    rfl
  · cases h
def keyL (t : TypS) : Lit := .string (keyBytes [.string t.space, .string t.rel])
theorem keyed_t : Keyed Try.prog 166 := Keyed.of_law (deep_law_laid (by kernel_rfl : laidOutB Try.prog = true) (m := 10) (by decide) (of_decide_eq_true (by kernel_rfl)) (by kernel_rfl) (by kernel_rfl))
theorem types_succ : ∃ m, Try.prog.types.size = m + 1 := Nat.exists_eq_succ_of_ne_zero (Nat.ne_of_gt (of_decide_eq_true (by kernel_rfl : decide (0 < Try.prog.types.size) = true)))
theorem cells_ty : Try.prog.cellsOf 166 = 2 := by kernel_rfl
theorem cells_st : Try.prog.cellsOf 9 = 1 := by kernel_rfl
theorem keyty_t : Try.prog.keyType 166 = true := by kernel_rfl
theorem lits_s (m : Nat) (l : List UInt8) (h : l.length ≤ maxLen) : Try.prog.keyLits (m + 1) 9 [strV l] = some [.string l] := by
  unfold Program.keyLits
  simp only [Try.underlying9, strV]
  rw [if_pos (show (⟨⟨l⟩⟩ : ByteArray).size ≤ maxLen from h)]
theorem lits_t (t : TypS) (h : smT t) : Try.prog.keyLits (Try.prog.types.size + 1) 166 (typC t) = some [.string t.space, .string t.rel] := by
  obtain ⟨m, hm⟩ := types_succ
  rw [hm]
  unfold Program.keyLits
  simp only [Try.underlying166, typC]
  rw [if_pos ⟨by rw [cells_ty]; rfl, by kernel_rfl⟩]
  simp [List.mapM_cons, cells_st, lits_s m _ h.1, lits_s m _ h.2]
theorem keyOf_t (t : TypS) (h : smT t) : keyOf Try.prog 166 (.agg ⟨typC t⟩) = some (keyL t) := by
  unfold keyOf
  simp only [Try.underlying166]
  rw [if_pos (by simp [keyty_t, Value.formed, Try.underlying166, cells_ty, typC])]
  show Option.map _ (Try.prog.keyLits (Try.prog.types.size + 1) 166 (typC t)) = _
  rw [lits_t t h]; rfl
theorem keyL_inj {t u : TypS} (ht : smT t) (hu : smT u) (h : keyL t = keyL u) : t = u := by
  unfold keyL at h
  have h : keyBytes [.string t.space, .string t.rel] = keyBytes [.string u.space, .string u.rel] := by simpa using h
  have := keyLits_inj (lits_t t ht) (lits_t u hu) h
  simp only [List.cons.injEq, Lit.string.injEq, and_true] at this
  cases t
  cases u
  simp only [TypS.mk.injEq]
  exact this

def AtM (W : PW) (g : Nat) (c : ConfS) : Prop := W.F g ∧ ∃ D : DataW Unit, W.w.ownsMap (H := Unit) Try.prog 166 spotR g (keysS c).length D ∧ Maps.size D = (keysS c).length ∧
  ∀ t : TypS, smT t → Maps.has D (keyL t) = (findS c t).isSome ∧ D.atKey (keyL t) (spotD (0, 0)) = spotD ((findS c t).getD (0, 0))
theorem AtM.mono {W W' : PW} {g : Nat} {c : ConfS} (h : AtM W g c) (l : W.Le W') : AtM W' g c := by
  obtain ⟨hA, D, ⟨es, clock, k1, k2⟩, h2, h3⟩ := h
  exact ⟨l.al _ hA, D, ⟨es, clock, (l.bl _ hA).trans k1, k2⟩, h2, h3⟩
theorem zero_spot (w : World) : (zeroValue 227).run Try.prog w = .ok (.agg ⟨spotC (0, 0)⟩) w := by kernel_rfl
section
variable {B : Base}
theorem raw_look {o : Oper} {m x : Operand} {g : Nat} {t : TypS} {c : ConfS} {f : Fr} {prot : List Nat} {S : GS} {K : GV → GS → Prop} (ho : o.op = .lookup 222 m x true) (hm : evG f m = .v (.map (some g))) (hx : ∀ ρ, (evG f x).real ρ = .agg ⟨typC t⟩) (ht : smT t) (hM : AtM S.W g c)
    (hK : K (.v (.tuple ⟨[.agg ⟨spotC ((findS c t).getD (0, 0))⟩, .bool (findS c t).isSome]⟩)) S) : RawVC Try.prog B o f prot S K := by
  refine ⟨fun ρ w ev hev hst => ⟨.v (.tuple ⟨[.agg ⟨spotC ((findS c t).getD (0, 0))⟩, .bool (findS c t).isSome]⟩), S, ρ, w, .inl ?_, fun _ _ => rfl, Grow.refl _ _, trivial, hst, hK⟩⟩
  obtain ⟨dst, op, type, pos, after, guard⟩ := o
  obtain rfl : op = .lookup 222 m x true := ho
  have e1 : ev m = .map (some g) := by rw [hev, hm]; rfl
  have e2 : ev x = .agg ⟨typC t⟩ := by rw [hev, hx]
  obtain ⟨hA, D, ⟨es, clock, k1, k2⟩, _, h3⟩ := hM
  have hown : w.ownsMap (H := Unit) Try.prog 166 spotR g (keysS c).length D := ⟨es, clock, (hst.vblock _ (S.W.fa _ hA)).trans k1, k2⟩
  obtain ⟨a1, a2⟩ := h3 t ht
  obtain ⟨v, ps, hrun, hv⟩ := hown.look_ok keyed_t Try.underlying222 (zero_spot w) (zd := spotD (0, 0)) (zp := []) rfl (keyOf_t t ht)
  rw [a2] at hv
  rw [spotR_inv hv, a1] at hrun
  simp only [execOp, e1, e2, Sem.run_bind, hrun, Result.andThen_ok, Sem.run_pure]
  rfl
theorem raw_mlen {o : Oper} {x : Operand} {g : Nat} {c : ConfS} {f : Fr} {prot : List Nat} {S : GS} {K : GV → GS → Prop} (ho : o.op = .call ⟨.builtin .len, ⟨[x]⟩, ⟨[222]⟩⟩) (hx : evG f x = .v (.map (some g))) (hM : AtM S.W g c)
    (hK : K (.v (.int .i64 (keysS c).length)) S) : RawVC Try.prog B o f prot S K := by
  refine ⟨fun ρ w ev hev hst => ⟨.v (.int .i64 (keysS c).length), S, ρ, w, .inl ?_, fun _ _ => rfl, Grow.refl _ _, trivial, hst, hK⟩⟩
  obtain ⟨dst, op, type, pos, after, guard⟩ := o
  obtain rfl : op = .call ⟨.builtin .len, ⟨[x]⟩, ⟨[222]⟩⟩ := ho
  have e1 : ev x = .map (some g) := by rw [hev, hx]; rfl
  obtain ⟨hA, D, ⟨es, clock, k1, k2⟩, h2, _⟩ := hM
  have hown : w.ownsMap (H := Unit) Try.prog 166 spotR g (keysS c).length D := ⟨es, clock, (hst.vblock _ (S.W.fa _ hA)).trans k1, k2⟩
  have := hown.len Try.underlying222 type
  rw [h2] at this
  simp [execOp, resolve, invoke, builtin, e1, this, Result.andThen]
  rfl
end

def Idx (W : PW) (a : Addr) (c : ConfS) : Prop := ∃ (sv kv : Value) (g : Nat), Rds W a [sv, kv, .map (some g)] ∧ RL SpR 2 W sv c.spaces ∧ RP scopeC W kv c.scopes ∧ AtM W g c
theorem Idx.mono {W W' : PW} {a : Addr} {c : ConfS} (h : Idx W a c) (l : W.Le W') : Idx W' a c := by
  obtain ⟨sv, kv, g, h1, h2, h3, h4⟩ := h
  exact ⟨sv, kv, g, Rds.mono h1 l, h2.mono SpR.mono l, h3.mono l, h4.mono l⟩
end Go.Proofs.Ytcgbcbdgjhnlaaa

