/- The conditions are enough: operations that only read. -/
import Derived.Test.YtcgbcbdgjhnlaaaSound
import Derived.Laws.IdiomStrings
namespace Go.Proofs.Ytcgbcbdgjhnlaaa
open Go.RowKit

section
variable {P : Program} {B : Base}

/-- An operation yields the ghost value g, in every later world in which the variables that it reads are as they were. -/
structure QOK (P : Program) (B : Base) (o : Oper) (f : Fr) (S : GS) (g : GV) : Prop where
  lt : g.lt S.σ.length
  run : ∀ (ρ : Nat → Nat) (S' : GS) (w : World) (ev : Operand → Value), St B ρ S' w → S.W.Le S'.W → Held (depOf (resOp P o) f) S S' →
    (∀ x, x ∈ o.op.operands → ev x = (evG f x).real ρ) → (execOp ev o).run P w = .ok (.value (g.real ρ)) w

variable {f : Fr} {prot : List Nat} {S : GS} {K : GV → GS → Prop}

theorem lay_agg {t : TypeId} {n : Nat} (h : lay P t = some (true, n)) : (∃ i, P.info? t = some i ∧ i.size = n) ∧ ((∃ fs, P.underlying t = some (.struct fs)) ∨ ∃ l e, P.underlying t = some (.array l e)) := by
  unfold lay at h
  split at h <;> simp only [Option.some.injEq, Prod.mk.injEq, reduceCtorEq, false_and, true_and] at h
  · rename_i fs i h1 h2; exact ⟨⟨i, h2, h⟩, .inl ⟨fs, h1⟩⟩
  · rename_i l e i h1 h2; exact ⟨⟨i, h2, h⟩, .inr ⟨l, e, h1⟩⟩
theorem lay_sca {t : TypeId} {n : Nat} (h : lay P t = some (false, n)) (w : World) : (isAgg t).run P w = .ok false w := by
  unfold lay at h
  split at h <;> simp only [Option.some.injEq, Prod.mk.injEq, reduceCtorEq, false_and] at h
  rename_i d i h3 h4 h1 h2
  simp only [isAgg, Sem.run_bind, run_underlying h1, Result.andThen_ok]
  cases d <;> first | rfl | exact absurd rfl (h3 _ _) | exact absurd rfl (h4 _ _ _)
theorem isAgg_run {t : TypeId} {n : Nat} (h : lay P t = some (true, n)) (w : World) : (isAgg t).run P w = .ok true w := by
  obtain ⟨_, ⟨fs, h1⟩ | ⟨l, e, h1⟩⟩ := lay_agg h <;> simp only [isAgg, Sem.run_bind, run_underlying h1, Result.andThen_ok] <;> rfl
theorem sizeOf_run {t : TypeId} {i : TypeInfo} (h : P.info? t = some i) (w : World) : (sizeOf t).run P w = .ok i.size w := by
  simp [sizeOf, typeInfo, h]

theorem run_loadAt1 {t : TypeId} {n : Nat} (h : lay P t = some (false, n)) {w : World} {a : Addr} {v : Value} (hc : w.cell? a = some v) : (Instr.loadAt t (.pointer (some a))).run P w = .ok v w := by
  simp [Instr.loadAt, Instr.sureAddr, loadVar, lay_sca h, hc]
theorem run_loadAtN {t : TypeId} {n : Nat} (h : lay P t = some (true, n)) {w : World} {a : Addr} {cs : List Value} (hl : cs.length = n) (hc : ∀ j v, cs[j]? = some v → w.cell? (a.add j) = some v) :
    (Instr.loadAt t (.pointer (some a))).run P w = .ok (.agg ⟨cs⟩) w := by
  obtain ⟨⟨i, hi, hs⟩, _⟩ := lay_agg h
  have hr := run_loadCells_list P w a cs hc
  rw [hl, ← hs] at hr
  simp [Instr.loadAt, Instr.sureAddr, loadVar, isAgg_run h, sizeOf_run hi, hr]

theorem ble_le {a b : Nat} (h : Nat.ble a b = true) : a ≤ b := Nat.le_of_ble_eq_true h

theorem part1 {t : TypeId} {n : Nat} (h : lay P t = some (false, n)) {w : World} {cs : Array Value} {off : Nat} {v : Value} (hv : cs[off]? = some v) : (part t cs off).run P w = .ok v w := by
  simp [part, lay_sca h, hv]
theorem partN {t : TypeId} {n : Nat} (h : lay P t = some (true, n)) {w : World} {cs : Array Value} {off : Nat} : (part t cs off).run P w = .ok (.agg (cs.extract off (off + n))) w := by
  obtain ⟨⟨i, hi, hs⟩, _⟩ := lay_agg h
  simp [part, isAgg_run h, sizeOf_run hi, hs]

theorem q_move {dst : Option Nat} {type : TypeId} {pos : String} {after : Array Edge} {guard : Option (Nat × Bool)} {x : Operand} {op : Op} (hop : op = .move x ∨ op = .assign x)
    (hvc : vcOp P B (.mv x) f prot S K) (hlt : ∀ i, (f i).lt S.σ.length) : ∃ g, K g S ∧ QOK P B ⟨dst, op, type, pos, after, guard⟩ f S g := by
  refine ⟨evG f x, ?_, evG_lt hlt x, fun ρ S' w ev _ _ _ hev => ?_⟩
  · simp only [vcOp] at hvc
    split at hvc <;> rename_i h <;> rw [h] <;> exact hvc
  · rcases hop with rfl | rfl
    · have e := hev x (by simp [Op.operands])
      simp only [execOp, e]; rfl
    · have e := hev x (by simp [Op.operands])
      simp only [execOp, e]; rfl

theorem q_pick {dst : Option Nat} {type : TypeId} {pos : String} {after : Array Edge} {guard : Option (Nat × Bool)} {c a b : Operand}
    (hvc : vcOp P B (.pick c a b) f prot S K) (hlt : ∀ i, (f i).lt S.σ.length) : ∃ g, K g S ∧ QOK P B ⟨dst, .pick c a b, type, pos, after, guard⟩ f S g := by
  simp only [vcOp] at hvc
  split at hvc
  · rename_i t h
    cases t
    · refine ⟨evG f b, hvc, evG_lt hlt b, fun ρ S' w ev _ _ _ hev => ?_⟩
      have e1 := hev c (by simp [Op.operands]); have e2 := hev b (by simp [Op.operands])
      rw [h] at e1
      simp [execOp, e1, e2, GV.real, asBool]
    · refine ⟨evG f a, hvc, evG_lt hlt a, fun ρ S' w ev _ _ _ hev => ?_⟩
      have e1 := hev c (by simp [Op.operands]); have e2 := hev a (by simp [Op.operands])
      rw [h] at e1
      simp [execOp, e1, e2, GV.real, asBool]
  · exact hvc.elim

theorem q_nilck {dst : Option Nat} {type : TypeId} {pos : String} {after : Array Edge} {guard : Option (Nat × Bool)} {x : Operand}
    (hvc : vcOp P B (.nilck x) f prot S K) (hlt : ∀ i, (f i).lt S.σ.length) : ∃ g, K g S ∧ QOK P B ⟨dst, .nilCheck x, type, pos, after, guard⟩ f S g := by
  simp only [vcOp] at hvc
  split at hvc
  · rename_i a h
    refine ⟨_, hvc, trivial, fun ρ S' w ev _ _ _ hev => ?_⟩
    have e1 := hev x (by simp [Op.operands]); rw [h] at e1
    simp [execOp, e1, GV.real]
  · rename_i k o h
    have hl := evG_lt hlt x; rw [h] at hl
    refine ⟨_, hvc, hl, fun ρ S' w ev _ _ _ hev => ?_⟩
    have e1 := hev x (by simp [Op.operands]); rw [h] at e1
    simp [execOp, e1, GV.real]
  · exact hvc.elim

theorem q_faddr {dst : Option Nat} {type : TypeId} {pos : String} {after : Array Edge} {guard : Option (Nat × Bool)} {s : TypeId} {x : Operand} {i : Nat} {fs : Array Field} {fd : Field} {ti : TypeInfo}
    (h1 : P.underlying s = some (.struct fs)) (h2 : fs[i]? = some fd) (h3 : P.info? fd.type = some ti) (h4 : Nat.beq ti.size 0 = false)
    (hvc : vcOp P B (.faddr fd.offset x) f prot S K) (hlt : ∀ i, (f i).lt S.σ.length) : ∃ g, K g S ∧ QOK P B ⟨dst, .fieldAddr s x i, type, pos, after, guard⟩ f S g := by
  have h4' : ¬ ti.size = 0 := fun h => by rw [h] at h4; cases h4
  simp only [vcOp] at hvc
  split at hvc
  · rename_i a h
    refine ⟨_, hvc, trivial, fun ρ S' w ev _ _ _ hev => ?_⟩
    have e1 := hev x (by simp [Op.operands]); rw [h] at e1
    simp [execOp, e1, GV.real, Instr.fieldAt, run_underlying h1, h2, Instr.sureAddr, fieldPlace, sizeOf_run h3, h4']
  · rename_i k o h
    have hl := evG_lt hlt x; rw [h] at hl
    refine ⟨_, hvc, hl, fun ρ S' w ev _ _ _ hev => ?_⟩
    have e1 := hev x (by simp [Op.operands]); rw [h] at e1
    simp [execOp, e1, GV.real, Instr.fieldAt, run_underlying h1, h2, Instr.sureAddr, fieldPlace, sizeOf_run h3, h4', add_lit]
  · exact hvc.elim

theorem q_load1 {dst : Option Nat} {type : TypeId} {pos : String} {after : Array Edge} {guard : Option (Nat × Bool)} {t : TypeId} {x : Operand} {n : Nat}
    (h1 : lay P t = some (false, n)) (hdep : depOf (resOp P ⟨dst, .load t x, type, pos, after, guard⟩) f = depOf (.ld1 x) f)
    (hvc : vcOp P B (.ld1 x) f prot S K) (hcl : ∀ (k : Nat) (cs : List PV), S.σ[k]? = some cs → ∀ c ∈ cs, c.lt S.σ.length) :
    ∃ g, K g S ∧ QOK P B ⟨dst, .load t x, type, pos, after, guard⟩ f S g := by
  simp only [vcOp] at hvc
  split at hvc
  · rename_i a h
    obtain ⟨v, hr, hK⟩ := hvc
    refine ⟨_, hK, trivial, fun ρ S' w ev hst hle hd hev => ?_⟩
    have e1 := hev x (by simp [Op.operands]); rw [h] at e1
    have hc := hst.rdO hle (hd.own (by rw [hdep]; simp [depOf, h])) hr
    simp only [execOp, e1, GV.real, Sem.run_bind, run_loadAt1 h1 hc]; rfl
  · rename_i k o h
    split at hvc
    · rename_i cs hk
      have key : ∀ c, cs[o]? = some c → ∀ (ρ : Nat → Nat) (S' : GS) (w : World) (ev : Operand → Value), St B ρ S' w → Held (depOf (resOp P ⟨dst, .load t x, type, pos, after, guard⟩) f) S S' →
          ev x = (evG f x).real ρ → (execOp ev ⟨dst, .load t x, type, pos, after, guard⟩).run P w = .ok (.value (c.real ρ)) w := by
        intro c hc ρ S' w ev hst hd e1
        rw [h] at e1
        have hkk := hd.var k (by rw [hdep]; simp [depOf, h])
        rw [hk] at hkk
        have hcell := hst.cell hkk hc
        simp only [execOp, e1, GV.real, Sem.run_bind, run_loadAt1 h1 hcell]; rfl
      split at hvc
      · rename_i v hv
        exact ⟨_, hvc, trivial, fun ρ S' w ev hst _ hd hev => key _ hv ρ S' w ev hst hd (hev x (by simp [Op.operands]))⟩
      · rename_i j i hv
        exact ⟨_, hvc, hcl k cs hk _ (List.mem_of_getElem? hv), fun ρ S' w ev hst _ hd hev => key _ hv ρ S' w ev hst hd (hev x (by simp [Op.operands]))⟩
      · exact hvc.elim
    · exact hvc.elim
  · exact hvc.elim

theorem q_loadN {dst : Option Nat} {type : TypeId} {pos : String} {after : Array Edge} {guard : Option (Nat × Bool)} {t : TypeId} {x : Operand} {n : Nat}
    (h1 : lay P t = some (true, n)) (hdep : depOf (resOp P ⟨dst, .load t x, type, pos, after, guard⟩) f = depOf (.ldN n x) f)
    (hvc : vcOp P B (.ldN n x) f prot S K) (hcl : ∀ (k : Nat) (cs : List PV), S.σ[k]? = some cs → ∀ c ∈ cs, c.lt S.σ.length) :
    ∃ g, K g S ∧ QOK P B ⟨dst, .load t x, type, pos, after, guard⟩ f S g := by
  simp only [vcOp] at hvc
  split at hvc
  · rename_i a h
    obtain ⟨cs, hl, hr, hK⟩ := hvc
    refine ⟨_, hK, trivial, fun ρ S' w ev hst hle hd hev => ?_⟩
    have e1 := hev x (by simp [Op.operands]); rw [h] at e1
    have hc : ∀ j v, cs[j]? = some v → w.cell? (a.add j) = some v := fun j v hj => hst.rdO hle (hd.own (by rw [hdep]; simp [depOf, h])) (hr j v hj)
    simp only [execOp, e1, GV.real, Sem.run_bind, run_loadAtN h1 hl hc]; rfl
  · rename_i k o h
    split at hvc
    · rename_i cs hk
      split at hvc
      · rename_i hb
        have hle := ble_le hb
        have hlen : ((cs.drop o).take n).length = n := by rw [List.length_take, List.length_drop]; omega
        rw [forceP_eq] at hvc
        refine ⟨_, hvc, fun c hc => hcl k cs hk c (List.mem_of_mem_drop (List.mem_of_mem_take hc)), fun ρ S' w ev hst _ hd hev => ?_⟩
        have e1 := hev x (by simp [Op.operands]); rw [h] at e1
        have hkk := hd.var k (by rw [hdep]; simp [depOf, h])
        rw [hk] at hkk
        have hc : ∀ j v, (((cs.drop o).take n).map (PV.real ρ))[j]? = some v → w.cell? ((⟨ρ k, o, none⟩ : Addr).add j) = some v := by
          intro j v hj
          rw [List.getElem?_map] at hj
          cases hv : ((cs.drop o).take n)[j]? with
          | none => rw [hv] at hj; cases hj
          | some c =>
            rw [hv] at hj
            simp only [Option.map_some, Option.some.injEq] at hj
            subst hj
            rw [add_lit]
            have hjn : j < n := by
              have := (List.getElem?_eq_some_iff.1 hv).1
              omega
            rw [List.getElem?_take_of_lt hjn, List.getElem?_drop] at hv
            exact hst.cell hkk hv
        simp only [execOp, e1, GV.real, Sem.run_bind, run_loadAtN h1 (by rw [List.length_map, hlen]) hc]; rfl
      · exact hvc.elim
    · exact hvc.elim
  · exact hvc.elim

theorem q_iaddr {dst : Option Nat} {type : TypeId} {pos : String} {after : Array Edge} {guard : Option (Nat × Bool)} {t e : TypeId} {x i : Operand} {ti : TypeInfo}
    (h1 : P.underlying t = some (.slice e)) (h2 : P.info? e = some ti)
    (hvc : vcOp P B (.iaddr ti.size x i) f prot S K) : ∃ g, K g S ∧ QOK P B ⟨dst, .indexAddr t x i, type, pos, after, guard⟩ f S g := by
  simp only [vcOp] at hvc
  split at hvc
  · rename_i A n c k j hx hi
    obtain ⟨⟨h0, hn⟩, a, rfl, hK⟩ := hvc
    refine ⟨_, hK, trivial, fun ρ S' w ev _ _ _ hev => ?_⟩
    have e1 := hev x (by simp [Op.operands]); rw [hx] at e1
    have e2 := hev i (by simp [Op.operands]); rw [hi] at e2
    simp [execOp, e1, e2, GV.real, Instr.indexAt, asIntOf, run_underlying h1, h0, hn, sizeOf_run h2]
  · exact hvc.elim

theorem bytes_at {s : ByteArray} {j : Nat} (h : j < s.data.toList.length) : s[j]? = some ((s.data.toList[j]?).getD 0) := by
  obtain ⟨⟨l⟩⟩ := s
  simp only at h ⊢
  have hs : j < (ByteArray.mk ⟨l⟩).size := h
  rw [getElem?_pos (ByteArray.mk ⟨l⟩) j hs, List.getElem?_eq_getElem h]
  rfl
theorem size_list (s : ByteArray) : s.size = s.data.toList.length := rfl

theorem q_index {dst : Option Nat} {type : TypeId} {pos : String} {after : Array Edge} {guard : Option (Nat × Bool)} {t : TypeId} {x i : Operand}
    (h1 : P.underlying t = some .string)
    (hvc : vcOp P B (.idx x i) f prot S K) : ∃ g, K g S ∧ QOK P B ⟨dst, .index t x i, type, pos, after, guard⟩ f S g := by
  simp only [vcOp] at hvc
  split at hvc
  · rename_i s k j hx hi
    obtain ⟨⟨h0, hn⟩, hK⟩ := hvc
    refine ⟨_, hK, trivial, fun ρ S' w ev _ _ _ hev => ?_⟩
    have e1 := hev x (by simp [Op.operands]); rw [hx] at e1
    have e2 := hev i (by simp [Op.operands]); rw [hi] at e2
    have hb := bytes_at (s := s) (j := j.toNat) (by omega)
    simp [execOp, e1, e2, GV.real, Instr.index, asIntOf, run_underlying h1, h0, hb, byteAt]
  · exact hvc.elim

theorem aggCells_real {g : GV} {cs : List PV} (h : aggCells g = some cs) (ρ : Nat → Nat) : g.real ρ = .agg ⟨cs.map (PV.real ρ)⟩ ∧ ∀ n, g.lt n → ∀ c ∈ cs, c.lt n := by
  cases g with
  | v x =>
    cases x <;> simp only [aggCells, Option.some.injEq, reduceCtorEq] at h
    subst h
    refine ⟨?_, fun n _ c hc => ?_⟩
    · rw [PV.real_v]; rfl
    · obtain ⟨y, _, rfl⟩ := List.mem_map.1 hc; trivial
  | lp k o => cases h
  | ag cs' => simp only [aggCells, Option.some.injEq] at h; subst h; exact ⟨rfl, fun n h => h⟩
  | clo f caps => cases h

theorem q_fld1 {dst : Option Nat} {type : TypeId} {pos : String} {after : Array Edge} {guard : Option (Nat × Bool)} {t : TypeId} {x : Operand} {i n : Nat} {fs : Array Field} {fd : Field}
    (h1 : P.underlying t = some (.struct fs)) (h2 : fs[i]? = some fd) (h3 : lay P fd.type = some (false, n))
    (hvc : vcOp P B (.fld1 fd.offset x) f prot S K) (hlt : ∀ i, (f i).lt S.σ.length) : ∃ g, K g S ∧ QOK P B ⟨dst, .field t x i, type, pos, after, guard⟩ f S g := by
  simp only [vcOp] at hvc
  split at hvc
  · rename_i cs hcs
    have key : ∀ c, cs[fd.offset]? = some c → ∀ (ρ : Nat → Nat) (w : World) (ev : Operand → Value), ev x = (evG f x).real ρ →
        (execOp ev ⟨dst, .field t x i, type, pos, after, guard⟩).run P w = .ok (.value (c.real ρ)) w := by
      intro c hc ρ w ev e1
      rw [(aggCells_real hcs ρ).1] at e1
      have hv : (⟨cs.map (PV.real ρ)⟩ : Array Value)[fd.offset]? = some (c.real ρ) := by simp [hc]
      simp only [execOp, e1, Instr.field, Sem.run_bind, run_underlying h1, Result.andThen_ok, h2, asAgg, Sem.run_pure, part1 h3 hv]
    split at hvc
    · rename_i v hc
      exact ⟨_, hvc, trivial, fun ρ S' w ev _ _ _ hev => key _ hc ρ w ev (hev x (by simp [Op.operands]))⟩
    · rename_i j i hc
      exact ⟨_, hvc, (aggCells_real hcs id).2 _ (evG_lt hlt x) _ (List.mem_of_getElem? hc), fun ρ S' w ev _ _ _ hev => key _ hc ρ w ev (hev x (by simp [Op.operands]))⟩
    · exact hvc.elim
  · exact hvc.elim

theorem q_fldN {dst : Option Nat} {type : TypeId} {pos : String} {after : Array Edge} {guard : Option (Nat × Bool)} {t : TypeId} {x : Operand} {i n : Nat} {fs : Array Field} {fd : Field}
    (h1 : P.underlying t = some (.struct fs)) (h2 : fs[i]? = some fd) (h3 : lay P fd.type = some (true, n))
    (hvc : vcOp P B (.fldN fd.offset n x) f prot S K) (hlt : ∀ i, (f i).lt S.σ.length) : ∃ g, K g S ∧ QOK P B ⟨dst, .field t x i, type, pos, after, guard⟩ f S g := by
  simp only [vcOp] at hvc
  split at hvc
  · rename_i cs hcs
    split at hvc
    · rw [forceP_eq] at hvc
      refine ⟨_, hvc, fun c hc => (aggCells_real hcs id).2 _ (evG_lt hlt x) _ (List.mem_of_mem_drop (List.mem_of_mem_take hc)), fun ρ S' w ev _ _ _ hev => ?_⟩
      have e1 := hev x (by simp [Op.operands])
      rw [(aggCells_real hcs ρ).1] at e1
      simp [execOp, e1, Instr.field, run_underlying h1, h2, asAgg, partN h3, GV.real]
    · exact hvc.elim
  · exact hvc.elim

theorem run_bound (w : World) (y : Nat) (code : BoundsCode) (k : IntKind) (i : Int) (h0 : 0 ≤ i) (h1 : i ≤ y) : (Instr.sliceBound (.int k i) y code).run P w = .ok i.toNat w := by
  simp [Instr.sliceBound, asIntOf, h0, h1]

theorem bound_int {d : Int} {x : Operand} {l : Int} (h : boundG f d (some x) = some l) : ∃ k, evG f x = .v (.int k l) := by
  simp only [boundG] at h
  split at h
  · rename_i k i hx
    simp only [Option.some.injEq] at h
    subst h
    exact ⟨k, hx⟩
  · cases h
/-- The bounds of a cut, as the ghost frame has them. -/
theorem run_bounds (ρ : Nat → Nat) (ev : Operand → Value) (w : World) (sl : Bool) (n c : Nat) (lo hi : Option Operand) {l h : Int} (hl : boundG f 0 lo = some l) (hh : boundG f n hi = some h)
    (e1 : ∀ x, lo = some x → ev x = (evG f x).real ρ) (e2 : ∀ x, hi = some x → ev x = (evG f x).real ρ) (h0 : 0 ≤ l) (h1 : l ≤ h) (h2 : h ≤ c) :
    (Instr.sliceBounds sl n c (lo.map ev) (hi.map ev) none).run P w = .ok (l.toNat, h.toNat, c) w := by
  have hnn : 0 ≤ h := by omega
  cases lo with
  | none =>
    simp only [boundG, Option.some.injEq] at hl
    subst hl
    cases hi with
    | none =>
      simp only [boundG, Option.some.injEq] at hh
      subst hh
      simp [Instr.sliceBounds]
    | some y =>
      obtain ⟨k, hk⟩ := bound_int hh
      have ey := e2 y rfl
      rw [hk] at ey
      simp [Instr.sliceBounds, ey, GV.real, run_bound (P := P) w c _ k h hnn h2]
  | some x =>
    obtain ⟨k, hk⟩ := bound_int hl
    have ex := e1 x rfl
    rw [hk] at ex
    cases hi with
    | none =>
      simp only [boundG, Option.some.injEq] at hh
      subst hh
      simp [Instr.sliceBounds, ex, GV.real, run_bound (P := P) w n _ k l h0 h1]
    | some y =>
      obtain ⟨k', hk'⟩ := bound_int hh
      have ey := e2 y rfl
      rw [hk'] at ey
      simp [Instr.sliceBounds, ex, ey, GV.real, run_bound (P := P) w c _ k' h hnn h2, run_bound (P := P) w h.toNat _ k l h0 (by omega)]

theorem extract_bytes (s : ByteArray) (a b : Nat) : s.extract a b = ⟨⟨(s.data.toList.drop a).take (b - a)⟩⟩ := by
  obtain ⟨⟨l⟩⟩ := s
  apply ByteArray.ext
  apply Array.ext'
  simp [ByteArray.data_extract]

theorem q_slS {dst : Option Nat} {type : TypeId} {pos : String} {after : Array Edge} {guard : Option (Nat × Bool)} {t : TypeId} {x : Operand} {lo hi : Option Operand}
    (h1 : P.underlying t = some .string)
    (hvc : vcOp P B (.slS x lo hi) f prot S K) : ∃ g, K g S ∧ QOK P B ⟨dst, .slice t x lo hi none, type, pos, after, guard⟩ f S g := by
  simp only [vcOp] at hvc
  split at hvc
  · rename_i s hx
    split at hvc
    · rename_i l h hl hh
      obtain ⟨⟨h0, h2, h3⟩, hK⟩ := hvc
      refine ⟨_, hK, trivial, fun ρ S' w ev _ _ _ hev => ?_⟩
      have e1 := hev x (by simp [Op.operands]); rw [hx] at e1
      have hb := run_bounds (P := P) ρ ev w false s.size s.size lo hi (l := l) (h := h) hl (by rw [size_list]; exact hh) (fun y hy => hev y (by simp [Op.operands, hy])) (fun y hy => hev y (by simp [Op.operands, hy])) h0 h2 (by rw [size_list]; exact h3)
      simp [execOp, e1, GV.real, Instr.sliceAt, run_underlying h1, Instr.slice, hb, extract_bytes]
    · exact hvc.elim
  · exact hvc.elim

theorem q_slV {dst : Option Nat} {type : TypeId} {pos : String} {after : Array Edge} {guard : Option (Nat × Bool)} {t e : TypeId} {x : Operand} {lo hi : Option Operand} {ti : TypeInfo}
    (h1 : P.underlying t = some (.slice e)) (hi' : P.info? e = some ti)
    (hvc : vcOp P B (.slV ti.size x lo hi) f prot S K) : ∃ g, K g S ∧ QOK P B ⟨dst, .slice t x lo hi none, type, pos, after, guard⟩ f S g := by
  simp only [vcOp] at hvc
  split at hvc
  · rename_i A n c hx
    split at hvc
    · rename_i l h hl hh
      obtain ⟨⟨h0, h2, h3⟩, hK⟩ := hvc
      refine ⟨_, hK, trivial, fun ρ S' w ev _ _ _ hev => ?_⟩
      have e1 := hev x (by simp [Op.operands]); rw [hx] at e1
      have hb := run_bounds (P := P) ρ ev w true n c lo hi (l := l) (h := h) hl hh (fun y hy => hev y (by simp [Op.operands, hy])) (fun y hy => hev y (by simp [Op.operands, hy])) h0 h2 h3
      simp [execOp, e1, GV.real, Instr.sliceAt, run_underlying h1, Instr.slice, hb, sizeOf_run hi']
    · exact hvc.elim
  · exact hvc.elim

theorem q_int {dst : Option Nat} {type : TypeId} {pos : String} {after : Array Edge} {guard : Option (Nat × Bool)} {op : BinOp} {t yt : TypeId} {x y : Operand}
    (hvc : vcOp P B (.ib op x y) f prot S K) : ∃ g, K g S ∧ QOK P B ⟨dst, .binOp op t x y yt, type, pos, after, guard⟩ f S g := by
  simp only [vcOp] at hvc
  split at hvc
  · rename_i k a k' b hx hy
    cases hsh : isSh op with
    | true =>
      rw [hsh] at hvc
      obtain ⟨h0, r, rfl, hK⟩ := hvc
      have hr : ∀ w : World, (binOp op t (.int k a) (.int k' b)).run P w = .ok (.int k (shV op k a b)) w := by
        intro w
        have h0' : ¬ b < 0 := by omega
        cases op <;> first | (cases hsh; done) | simp [binOp, Op.shift, shV, h0']
      refine ⟨_, hK, trivial, fun ρ S' w ev _ _ _ hev => ?_⟩
      have e1 := hev x (by simp [Op.operands]); rw [hx] at e1
      have e2 := hev y (by simp [Op.operands]); rw [hy] at e2
      have hg : (eqGuard op t x y (.int k a) (.int k' b)).run P w = .ok () w := by
        cases op <;> rfl
      simp only [execOp, e1, e2, GV.real, Sem.run_bind, hg, Result.andThen_ok, hr]; rfl
    | false =>
    rw [hsh] at hvc
    obtain ⟨rfl, hvc⟩ := hvc
    have key : ∀ r : Value, (∀ w : World, (binOp op t (.int k a) (.int k b)).run P w = .ok r w) → K (.v r) S → ∃ g, K g S ∧ QOK P B ⟨dst, .binOp op t x y yt, type, pos, after, guard⟩ f S g := by
      intro r hr hK
      refine ⟨_, hK, trivial, fun ρ S' w ev _ _ _ hev => ?_⟩
      have e1 := hev x (by simp [Op.operands]); rw [hx] at e1
      have e2 := hev y (by simp [Op.operands]); rw [hy] at e2
      have hg : (eqGuard op t x y (.int k a) (.int k b)).run P w = .ok () w := by
        cases op <;> rfl
      simp only [execOp, e1, e2, GV.real, Sem.run_bind, hg, Result.andThen_ok, hr]; rfl
    cases op <;> simp only [intVC] at hvc
    case add => obtain ⟨r, rfl, hK⟩ := hvc; exact key _ (fun w => by simp [binOp, Op.intArith]) hK
    case sub => obtain ⟨r, rfl, hK⟩ := hvc; exact key _ (fun w => by simp [binOp, Op.intArith]) hK
    case mul => obtain ⟨r, rfl, hK⟩ := hvc; exact key _ (fun w => by simp [binOp, Op.intArith]) hK
    case quo => obtain ⟨hb, r, rfl, hK⟩ := hvc; exact key _ (fun w => by simp [binOp, Op.intDiv, hb]) hK
    case rem => obtain ⟨hb, hK⟩ := hvc; exact key _ (fun w => by simp [binOp, Op.intDiv, hb]) hK
    case and => obtain ⟨r, hr, hK⟩ := hvc; exact key _ (fun w => by simp [binOp, hr]) hK
    case or => obtain ⟨r, hr, hK⟩ := hvc; exact key _ (fun w => by simp [binOp, hr]) hK
    case eql => exact key _ (fun w => by simp [binOp, Op.intCmp]; rfl) hvc
    case neq => exact key _ (fun w => by simp [binOp, Op.intCmp]; rfl) hvc
    case lss => exact key _ (fun w => by simp [binOp, Op.intCmp]) hvc
    case leq => exact key _ (fun w => by simp [binOp, Op.intCmp]) hvc
    case gtr => exact key _ (fun w => by simp [binOp, Op.intCmp]) hvc
    case geq => exact key _ (fun w => by simp [binOp, Op.intCmp]) hvc
  · exact hvc.elim

theorem bytes_list (a : ByteArray) : a.toList = a.data.toList := ByteArray.toList_eq a
theorem bytes_append (a b : ByteArray) : a ++ b = ⟨⟨a.data.toList ++ b.data.toList⟩⟩ := by
  obtain ⟨⟨x⟩⟩ := a
  obtain ⟨⟨y⟩⟩ := b
  apply ByteArray.ext
  apply Array.ext'
  simp [ByteArray.data_append]

theorem beq_dec (a b : List UInt8) : (a == b) = decide (a = b) := by rw [Bool.eq_iff_iff]; simp
theorem q_str {dst : Option Nat} {type : TypeId} {pos : String} {after : Array Edge} {guard : Option (Nat × Bool)} {op : BinOp} {t yt : TypeId} {x y : Operand}
    (hvc : vcOp P B (.sb op x y) f prot S K) : ∃ g, K g S ∧ QOK P B ⟨dst, .binOp op t x y yt, type, pos, after, guard⟩ f S g := by
  simp only [vcOp] at hvc
  split at hvc
  · rename_i a b hx hy
    have key : ∀ r : Value, (∀ w : World, (binOp op t (.string a) (.string b)).run P w = .ok r w) → K (.v r) S → ∃ g, K g S ∧ QOK P B ⟨dst, .binOp op t x y yt, type, pos, after, guard⟩ f S g := by
      intro r hr hK
      refine ⟨_, hK, trivial, fun ρ S' w ev _ _ _ hev => ?_⟩
      have e1 := hev x (by simp [Op.operands]); rw [hx] at e1
      have e2 := hev y (by simp [Op.operands]); rw [hy] at e2
      have hg : (eqGuard op t x y (.string a) (.string b)).run P w = .ok () w := by
        cases op <;> rfl
      simp only [execOp, e1, e2, GV.real, Sem.run_bind, hg, Result.andThen_ok, hr]; rfl
    cases op <;> simp only [strVC] at hvc
    case add =>
      obtain ⟨hn, hK⟩ := hvc
      refine key _ (fun w => ?_) hK
      have h1 : ¬ (((a.size + b.size : Nat) : Int) > IntKind.i64.max) := by
        have : IntKind.i64.max = 9223372036854775807 := by decide
        rw [this, size_list, size_list]; omega
      simp only [binOp, Op.stringOp, h1, if_false, bytes_append]; rfl
    case eql => exact key _ (fun w => by simp only [binOp, Op.stringOp, bytes_list, beq_dec]; rfl) hvc
    case neq => exact key _ (fun w => by simp only [binOp, Op.stringOp, bytes_list, beq_dec]; rfl) hvc
    case lss => exact key _ (fun w => by simp only [binOp, Op.stringOp, bytes_list]; rfl) hvc
  · exact hvc.elim

theorem run_conv_bytes {src dst e : TypeId} (hs : P.underlying src = some (.slice e)) (he : P.underlying e = some (.int .u8)) (hd : P.underlying dst = some .string) (w : World) (A : Option Addr) (c : Nat) (l : List UInt8)
    (h : 0 < l.length → ∃ a, A = some a ∧ ∀ j v, (l.map byteV)[j]? = some v → w.cell? (a.add j) = some v) : (convert src dst (.slice A l.length c)).run P w = .ok (.string ⟨⟨l⟩⟩) w := by
  cases A with
  | none =>
    have hl : l = [] := by
      cases l with
      | nil => rfl
      | cons x r => obtain ⟨a, e, _⟩ := h (by simp); cases e
    subst hl
    rw [run_convert_bytes_string w src dst e none _ c hs he hd]
    simp [Conv.bytesToString]; rfl
  | some a =>
    refine run_convert_bytes_back w src dst e a c l hs he hd fun j hj => ?_
    obtain ⟨a', e, hc⟩ := h (by omega)
    cases e
    exact hc j _ (by simp [hj, byteV])

theorem q_b2s {dst : Option Nat} {type : TypeId} {pos : String} {after : Array Edge} {guard : Option (Nat × Bool)} {src t e : TypeId} {x : Operand}
    (hs : P.underlying src = some (.slice e)) (he : P.underlying e = some (.int .u8)) (hd : P.underlying t = some .string) (hdep : depOf (resOp P ⟨dst, .convert src t x, type, pos, after, guard⟩) f = depOf (.b2s x) f)
    (hvc : vcOp P B (.b2s x) f prot S K) : ∃ g, K g S ∧ QOK P B ⟨dst, .convert src t x, type, pos, after, guard⟩ f S g := by
  simp only [vcOp] at hvc
  split at hvc
  · rename_i A n c h
    obtain ⟨l, hl, hr, hK⟩ := hvc
    refine ⟨_, hK, trivial, fun ρ S' w ev hst hle hh hev => ?_⟩
    have e1 := hev x (by simp [Op.operands]); rw [h] at e1
    subst hl
    have hrun := run_conv_bytes (P := P) hs he hd w A c l fun h0 => by
      obtain ⟨a, ha, hr⟩ := hr h0
      exact ⟨a, ha, fun j v hj => hst.rdO hle (hh.own (by rw [hdep]; simp [depOf])) (hr j v hj)⟩
    simp only [execOp, e1, GV.real, Sem.run_bind, hrun]; rfl
  · exact hvc.elim

theorem q_i2s {dst : Option Nat} {type : TypeId} {pos : String} {after : Array Edge} {guard : Option (Nat × Bool)} {src t : TypeId} {k' : IntKind} {x : Operand}
    (hs : P.underlying src = some (.int k')) (hd : P.underlying t = some .string)
    (hvc : vcOp P B (.i2s x) f prot S K) : ∃ g, K g S ∧ QOK P B ⟨dst, .convert src t x, type, pos, after, guard⟩ f S g := by
  simp only [vcOp] at hvc
  split at hvc
  · rename_i k n h
    refine ⟨_, hvc, trivial, fun ρ S' w ev _ _ _ hev => ?_⟩
    have e1 := hev x (by simp [Op.operands]); rw [h] at e1
    simp [execOp, e1, GV.real, convert, run_underlying hs, run_underlying hd, Conv.intToString]
  · exact hvc.elim

theorem q_slV3 {dst : Option Nat} {type : TypeId} {pos : String} {after : Array Edge} {guard : Option (Nat × Bool)} {t e : TypeId} {x : Operand} {lo hi : Option Operand} {mx : Operand} {ti : TypeInfo}
    (h1 : P.underlying t = some (.slice e)) (hi' : P.info? e = some ti)
    (hvc : vcOp P B (.slV3 ti.size x lo hi mx) f prot S K) : ∃ g, K g S ∧ QOK P B ⟨dst, .slice t x lo hi (some mx), type, pos, after, guard⟩ f S g := by
  simp only [vcOp] at hvc
  split at hvc
  · rename_i A n c hx
    split at hvc
    · rename_i l h m y hl hm hh
      obtain ⟨⟨h0, h2, h3, h4⟩, hK⟩ := hvc
      refine ⟨_, hK, trivial, fun ρ S' w ev _ _ _ hev => ?_⟩
      have e1 := hev x (by simp [Op.operands]); rw [hx] at e1
      obtain ⟨km, hm'⟩ := bound_int hm
      obtain ⟨kh, hh'⟩ := bound_int hh
      have em := hev mx (by simp [Op.operands]); rw [hm'] at em
      have eh := hev y (by simp [Op.operands]); rw [hh'] at eh
      have b1 := run_bound (P := P) w c .slice3Acap km m (by omega) h4
      have b2 := run_bound (P := P) w m.toNat .slice3B kh h (by omega) (by omega)
      have hb : (Instr.sliceBounds true n c (lo.map ev) (some (ev y)) (some (ev mx))).run P w = .ok (l.toNat, h.toNat, m.toNat) w := by
        cases lo with
        | none =>
          simp only [boundG, Option.some.injEq] at hl
          subst hl
          simp [Instr.sliceBounds, em, eh, GV.real, b1, b2]
        | some z =>
          obtain ⟨kl, hl'⟩ := bound_int hl
          have el := hev z (by simp [Op.operands]); rw [hl'] at el
          have b3 := run_bound (P := P) w h.toNat .slice3C kl l h0 (by omega)
          simp [Instr.sliceBounds, em, eh, el, GV.real, b1, b2, b3]
      simp [execOp, e1, GV.real, Instr.sliceAt, run_underlying h1, Instr.slice, hb, sizeOf_run hi']
    · exact hvc.elim
  · exact hvc.elim

theorem eq_bool {t : TypeId} (ht : P.underlying t = some .bool) (a b : Bool) (w : World) : (Op.equal t (.bool a) (.bool b)).run P w = .ok (a == b) w := by
  have h : ∀ d : Nat, (Op.equalIn (d + 1) t (.bool a) (.bool b)).run P w = .ok (a == b) w := fun d => by simp [Op.equalIn, run_underlying ht]
  exact h 9999
theorem eq_pnil {t e : TypeId} (ht : P.underlying t = some (.pointer e)) (a : Option Addr) (w : World) : (Op.equal t (.pointer a) (.pointer none)).run P w = .ok a.isNone w := by
  have h : ∀ d : Nat, (Op.equalIn (d + 1) t (.pointer a) (.pointer none)).run P w = .ok a.isNone w := fun d => by cases a <;> simp [Op.equalIn, run_underlying ht]
  exact h 9999

theorem q_bool {dst : Option Nat} {type : TypeId} {pos : String} {after : Array Edge} {guard : Option (Nat × Bool)} {op : BinOp} {t yt : TypeId} {x y : Operand} (ht : P.underlying t = some .bool)
    (hvc : vcOp P B (.bb op x y) f prot S K) : ∃ g, K g S ∧ QOK P B ⟨dst, .binOp op t x y yt, type, pos, after, guard⟩ f S g := by
  simp only [vcOp] at hvc
  split at hvc
  · rename_i a b hx hy
    refine ⟨_, hvc, trivial, fun ρ S' w ev _ _ _ hev => ?_⟩
    have e1 := hev x (by simp [Op.operands]); rw [hx] at e1
    have e2 := hev y (by simp [Op.operands]); rw [hy] at e2
    simp [execOp, e1, e2, GV.real, eqGuard, binOp, eq_bool ht]
  · rename_i a b hx hy
    refine ⟨_, hvc, trivial, fun ρ S' w ev _ _ _ hev => ?_⟩
    have e1 := hev x (by simp [Op.operands]); rw [hx] at e1
    have e2 := hev y (by simp [Op.operands]); rw [hy] at e2
    simp [execOp, e1, e2, GV.real, eqGuard, binOp, eq_bool ht]
  · exact hvc.elim

theorem q_pnil {dst : Option Nat} {type : TypeId} {pos : String} {after : Array Edge} {guard : Option (Nat × Bool)} {neq : Bool} {t e yt : TypeId} {x : Operand} (ht : P.underlying t = some (.pointer e))
    (hvc : vcOp P B (.pnil neq x) f prot S K) : ∃ g, K g S ∧ QOK P B ⟨dst, .binOp (if neq then .neq else .eql) t x (.const (.pointer none)) yt, type, pos, after, guard⟩ f S g := by
  simp only [vcOp] at hvc
  have key : ∀ (a : Option Addr) (ρ : Nat → Nat) (w : World) (ev : Operand → Value), ev x = .pointer a → ev (.const (.pointer none)) = .pointer none →
      (execOp ev ⟨dst, .binOp (if neq then .neq else .eql) t x (.const (.pointer none)) yt, type, pos, after, guard⟩).run P w = .ok (.value (.bool (match a with | some _ => neq | none => !neq))) w := by
    intro a ρ w ev e1 e2
    cases neq <;> cases a <;> simp [execOp, e1, e2, eqGuard, binOp, eq_pnil ht]
  split at hvc
  · rename_i a hx
    refine ⟨_, hvc, trivial, fun ρ S' w ev _ _ _ hev => ?_⟩
    have e1 := hev x (by simp [Op.operands]); rw [hx] at e1
    exact key (some a) ρ w ev e1 (hev _ (by simp [Op.operands]))
  · rename_i hx
    refine ⟨_, hvc, trivial, fun ρ S' w ev _ _ _ hev => ?_⟩
    have e1 := hev x (by simp [Op.operands]); rw [hx] at e1
    exact key none ρ w ev e1 (hev _ (by simp [Op.operands]))
  · rename_i k o hx
    refine ⟨_, hvc, trivial, fun ρ S' w ev _ _ _ hev => ?_⟩
    have e1 := hev x (by simp [Op.operands]); rw [hx] at e1
    exact key (some _) ρ w ev e1 (hev _ (by simp [Op.operands]))
  · exact hvc.elim

theorem q_not {dst : Option Nat} {type : TypeId} {pos : String} {after : Array Edge} {guard : Option (Nat × Bool)} {t : TypeId} {x : Operand}
    (hvc : vcOp P B (.not x) f prot S K) : ∃ g, K g S ∧ QOK P B ⟨dst, .unOp .not t x, type, pos, after, guard⟩ f S g := by
  simp only [vcOp] at hvc
  split at hvc
  · rename_i b hx
    refine ⟨_, hvc, trivial, fun ρ S' w ev _ _ _ hev => ?_⟩
    have e1 := hev x (by simp [Op.operands]); rw [hx] at e1
    simp [execOp, e1, GV.real, Op.unary]
  · exact hvc.elim

theorem q_lenS {dst : Option Nat} {type : TypeId} {pos : String} {after : Array Edge} {guard : Option (Nat × Bool)} {t : TypeId} {x : Operand} {c : Call} (hc : c = { callee := .builtin .len, args := #[x], argTypes := #[t] })
    (ht : P.underlying t = some .string) (hvc : vcOp P B (.lenS x) f prot S K) : ∃ g, K g S ∧ QOK P B ⟨dst, .call c, type, pos, after, guard⟩ f S g := by
  subst hc
  simp only [vcOp] at hvc
  split at hvc
  · rename_i s hx
    refine ⟨_, hvc, trivial, fun ρ S' w ev _ _ _ hev => ?_⟩
    have e1 := hev x (by simp [Op.operands, Call.operands]); rw [hx] at e1
    simp [execOp, e1, GV.real, resolve, invoke, builtin, Builtin.len_, run_underlying ht, goInt]
  · exact hvc.elim
theorem q_lenV {dst : Option Nat} {type : TypeId} {pos : String} {after : Array Edge} {guard : Option (Nat × Bool)} {t e : TypeId} {x : Operand} {c : Call} (hc : c = { callee := .builtin .len, args := #[x], argTypes := #[t] })
    (ht : P.underlying t = some (.slice e)) (hvc : vcOp P B (.lenV x) f prot S K) : ∃ g, K g S ∧ QOK P B ⟨dst, .call c, type, pos, after, guard⟩ f S g := by
  subst hc
  simp only [vcOp] at hvc
  split at hvc
  · rename_i A n c hx
    refine ⟨_, hvc, trivial, fun ρ S' w ev _ _ _ hev => ?_⟩
    have e1 := hev x (by simp [Op.operands, Call.operands]); rw [hx] at e1
    simp [execOp, e1, GV.real, resolve, invoke, builtin, Builtin.len_, run_underlying ht, goInt]
  · exact hvc.elim

theorem q_ext {dst : Option Nat} {type : TypeId} {pos : String} {after : Array Edge} {guard : Option (Nat × Bool)} {x : Operand} {i : Nat}
    (hvc : vcOp P B (.ext x i) f prot S K) : ∃ g, K g S ∧ QOK P B ⟨dst, .extract x i, type, pos, after, guard⟩ f S g := by
  simp only [vcOp] at hvc
  split at hvc
  · rename_i vs hx
    obtain ⟨v, hv, hK⟩ := hvc
    refine ⟨_, hK, trivial, fun ρ S' w ev _ _ _ hev => ?_⟩
    have e1 := hev x (by simp [Op.operands]); rw [hx] at e1
    simp [execOp, e1, GV.real, Instr.extract, hv]
  · exact hvc.elim

theorem q_conv {dst : Option Nat} {type : TypeId} {pos : String} {after : Array Edge} {guard : Option (Nat × Bool)} {src t : TypeId} {x : Operand} {k k' : IntKind}
    (h1 : P.underlying src = some (.int k')) (h2 : P.underlying t = some (.int k)) (hvc : vcOp P B (.conv k x) f prot S K) : ∃ g, K g S ∧ QOK P B ⟨dst, .convert src t x, type, pos, after, guard⟩ f S g := by
  simp only [vcOp] at hvc
  split at hvc
  · rename_i q n hx
    obtain ⟨r, rfl, hK⟩ := hvc
    refine ⟨_, hK, trivial, fun ρ S' w ev _ _ _ hev => ?_⟩
    have e1 := hev x (by simp [Op.operands]); rw [hx] at e1
    simp [execOp, e1, GV.real, convert, run_underlying h1, run_underlying h2, Conv.intToInt]
  · exact hvc.elim

theorem evs_real {ρ : Nat → Nat} {ev : Operand → Value} : ∀ {l : List Operand}, (∀ x ∈ l, ev x = (evG f x).real ρ) → l.map ev = (evs f l).map (GV.real ρ)
  | [], _ => rfl
  | x :: r, h => by simp only [List.map_cons, evs, h x (List.mem_cons_self ..), evs_real fun y hy => h y (List.mem_cons_of_mem _ hy)]
theorem evs_lt {n : Nat} (hlt : ∀ i, (f i).lt n) : ∀ (l : List Operand), ∀ g ∈ evs f l, g.lt n
  | [], g, hg => by cases hg
  | x :: r, g, hg => by
    rcases List.mem_cons.1 hg with rfl | hg
    · exact evG_lt hlt x
    · exact evs_lt hlt r g hg

theorem q_mkfn {dst : Option Nat} {type : TypeId} {pos : String} {after : Array Edge} {guard : Option (Nat × Bool)} {fid : FuncId} {first caps : Array Operand} (hf : first.toList = [])
    (hvc : vcOp P B (.mkfn fid caps.toList) f prot S K) (hlt : ∀ i, (f i).lt S.σ.length) : ∃ g, K g S ∧ QOK P B ⟨dst, .makeFunc (.func fid) first caps, type, pos, after, guard⟩ f S g := by
  have hf' : first = #[] := by rw [← Array.toList_inj]; exact hf
  subst hf'
  simp only [vcOp] at hvc
  split at hvc
  · rename_i l hl
    obtain ⟨_, h2⟩ := asPVs_real id hl
    refine ⟨_, hvc, h2 _ (evs_lt hlt _), fun ρ S' w ev _ _ _ hev => ?_⟩
    have h1 := (asPVs_real ρ hl).1
    have h3 : caps.toList.map ev = (evs f caps.toList).map (GV.real ρ) := evs_real fun x hx => hev x (by simp only [Op.operands, Array.empty_append]; exact Array.mem_toList_iff.1 hx)
    have h4 : caps.map ev = ⟨l.map (PV.real ρ)⟩ := by
      rw [← Array.toList_inj, Array.toList_map, h3, h1]
    simp [execOp, GV.real, Instr.makeFunc, h4]
  · exact hvc.elim

end
end Go.Proofs.Ytcgbcbdgjhnlaaa
