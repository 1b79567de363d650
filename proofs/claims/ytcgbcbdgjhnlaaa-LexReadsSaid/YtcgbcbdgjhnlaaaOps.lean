/- The conditions are enough: every operation. -/
import Derived.Test.YtcgbcbdgjhnlaaaLoud
namespace Go.Proofs.Ytcgbcbdgjhnlaaa
open Go.RowKit

section
variable {P : Program} {B : Base} {f : Fr} {prot : List Nat} {S : GS} {K : GV → GS → Prop} {ρ : Nat → Nat} {w : World} {ev : Operand → Value}

theorem onesB_one {ρ : Nat → Nat} : ∀ {cs : List PV}, onesB cs = true → ∀ v ∈ cs.map (PV.real ρ), v.oneCell' = true
  | [], _, v, hv => by cases hv
  | .v x :: r, h, v, hv => by
    simp only [onesB, Bool.and_eq_true] at h
    rcases List.mem_cons.1 hv with rfl | hv
    · exact h.1
    · exact onesB_one h.2 v hv
  | .lp k o :: r, h, v, hv => by
    rcases List.mem_cons.1 hv with rfl | hv
    · rfl
    · exact onesB_one (cs := r) h v hv

theorem o_store {dst : Option Nat} {type : TypeId} {pos : String} {after : Array Edge} {guard : Option (Nat × Bool)} {t : TypeId} {a x : Operand} {i : TypeInfo} (hi : P.info? t = some i)
    (hvc : vcOp P B (.st i.size a x) f prot S K) (hlt : ∀ i, (f i).lt S.σ.length) (hev : ∀ x, ev x = (evG f x).real ρ) (hst : St B ρ S w) :
    OpPost P ((execOp ev ⟨dst, .store t a x, type, pos, after, guard⟩).run P w) (OpR B prot S K ρ) := by
  simp only [vcOp] at hvc
  split at hvc
  · rename_i k o ha
    split at hvc
    · rename_i cs hk hc
      split at hvc
      · rename_i hb
        simp only [Bool.and_eq_true, Bool.not_eq_true'] at hb
        obtain ⟨⟨⟨h1, h2⟩, h3⟩, h4⟩ := hb
        rw [forceP_eq] at hvc
        have h1 := Nat.eq_of_beq_eq_true h1
        have h2 := ble_le h2
        have e1 : ev a = .pointer (some ⟨ρ k, o, none⟩) := by have := hev a; rw [ha] at this; exact this
        have e2 := hev x
        have hcr := GV.cells_real ρ hc
        have hsz : ((evG f x).real ρ).cells.size = i.size := by rw [← Array.length_toList, hcr, List.length_map, h1]
        obtain ⟨e, he⟩ := hst.loc k cs hk
        have hrun := run_storeCells_at P (ρ k) o e ((evG f x).cells.map (PV.real ρ)) 0 ⟨cs.map (PV.real ρ)⟩ w he (by simp; omega) (onesB_one h4)
        simp only [Nat.add_zero] at hrun
        have hsp : (cs.map (PV.real ρ)).take o ++ (evG f x).cells.map (PV.real ρ) ++ (cs.map (PV.real ρ)).drop (o + ((evG f x).cells.map (PV.real ρ)).length) = (splice cs o (evG f x).cells).map (PV.real ρ) := by
          rw [splice, List.map_append, List.map_append, List.map_take, List.map_drop, List.length_map]
        simp only [hsp] at hrun
        have hok : (execOp ev ⟨dst, .store t a x, type, pos, after, guard⟩).run P w = .ok .skip (w.setRow (ρ k) ⟨(splice cs o (evG f x).cells).map (PV.real ρ)⟩) := by
          simp only [execOp, e1, e2, Instr.storeAt, Instr.sureAddr, storeVar, Sem.run_bind, Sem.run_pure, Result.andThen_ok, sizeOf_run hi, hsz, ne_eq, not_true, if_false, hcr, hrun]
        rw [hok]
        have hl : ∀ c ∈ splice cs o (evG f x).cells, c.lt S.σ.length := by
          intro c hm
          simp only [splice, List.mem_append] at hm
          rcases hm with (hm | hm) | hm
          · exact hst.cells k cs hk c (List.mem_of_mem_take hm)
          · exact GV.cells_lt (evG_lt hlt x) c hm
          · exact hst.cells k cs hk c (List.mem_of_mem_drop hm)
        refine ⟨.v undef, { S with σ := S.σ.set k (splice cs o (evG f x).cells) }, ρ, rfl, fun _ _ => rfl, ⟨by simp, PW.Le.refl _, ⟨fun j hj => ?_, fun _ _ _ h => h⟩⟩, trivial, hst.set hk hl, hvc⟩
        have : j ≠ k := by
          rintro rfl
          exact not_mem_of h3 hj
        exact List.getElem?_set_ne (Ne.symm this)
      · exact hvc.elim
    · exact hvc.elim
  · rename_i p ha
    split at hvc
    · rename_i us hc hus
      obtain ⟨j, o, b, q, c, k, hj, ho, rfl, hlen, hone, hle, h0, hK⟩ := hvc
      have e1 := hev a; rw [ha] at e1
      have e2 := hev x
      have hcr := GV.cells_real ρ hc
      rw [plain_real ρ hus] at hcr
      have hsz : ((evG f x).real ρ).cells.size = i.size := by rw [← Array.length_toList, hcr, hlen]
      obtain ⟨g1, g2⟩ := hst.own j o hj
      rw [ho] at g1
      rcases g1.2 with ⟨e, _⟩ | ⟨g, cap, cur, e, hb0, hg, hnc, hcm, hcs, htake⟩
      · cases e
      · simp only [Value.slice.injEq, Option.some.injEq] at e
        obtain ⟨rfl, rfl, rfl⟩ := e
        have hlen1 := g1.1
        have hnle : o.n * o.sz ≤ c * o.sz := Nat.mul_le_mul_right _ hnc
        have hin : k + us.length ≤ cur.size := by rw [hlen, hcs]; omega
        have hrun := run_storeCells_at P g k o.e us 0 cur w hg (by omega) hone
        simp only [Nat.add_zero] at hrun
        rw [add_lit, Nat.zero_add] at e1
        have e1 : ev a = .pointer (some ⟨g, k, none⟩) := e1
        have hok : (execOp ev ⟨dst, .store t a x, type, pos, after, guard⟩).run P w = .ok .skip (w.setRow g ⟨cur.toList.take k ++ us ++ cur.toList.drop (k + us.length)⟩) := by
          simp only [execOp, e1, e2, Instr.storeAt, Instr.sureAddr, storeVar, Sem.run_bind, Sem.run_pure, Result.andThen_ok, sizeOf_run hi, hsz, ne_eq, not_true, if_false, hcr, hrun]
        rw [hok]
        have hown : (w.setRow g ⟨cur.toList.take k ++ us ++ cur.toList.drop (k + us.length)⟩).ownsRow 0 o.e o.sz (.slice (some ⟨g, 0, none⟩) o.n c) o.n (o.cs.take k ++ us ++ o.cs.drop (k + us.length)) := by
          refine ⟨by simp; omega, .inr ⟨g, c, _, rfl, Nat.zero_le _, setRow_heap w g _ _ _ _ hg, hnc, hcm, ?_, ?_⟩⟩
          · simp; omega
          · show (cur.toList.take k ++ us ++ cur.toList.drop (k + us.length)).take (o.n * o.sz) = _
            rw [← htake]
            apply List.ext_getElem?
            intro m
            have hcl : cur.toList.length = cur.size := Array.length_toList
            simp only [List.getElem?_take, List.getElem?_append, List.length_append, List.length_take, List.getElem?_drop, hcl]
            repeat' split
            all_goals first | rfl | omega | skip
            all_goals (try (congr 1; omega))
        rw [hlen] at hown ⊢
        refine ⟨.v undef, { S with O := S.O.set j { o with cs := o.cs.take k ++ us ++ o.cs.drop (k + i.size) } }, ρ, rfl, fun _ _ => rfl, ⟨Nat.le_refl _, PW.Le.refl _, ⟨fun _ _ => rfl, fun h => absurd h (not_mem_of h0)⟩⟩, trivial,
          hst.setOwn (o' := { o with cs := o.cs.take k ++ us ++ o.cs.drop (k + i.size) }) hj ⟨rfl, rfl, rfl, by rw [size_setRow]; exact Nat.le_refl _, fun m hm hne => setRow_other w _ _ _ (fun e => hne (by rw [ho, e]; rfl))⟩ ?_ (.inl rfl), hK⟩
        show World.ownsRow _ 0 o.e o.sz o.v o.n _
        dsimp only
        rw [ho]; exact hown
    · exact hvc.elim
  · exact hvc.elim

theorem o_alloc {dst : Option Nat} {type : TypeId} {pos : String} {after : Array Edge} {guard : Option (Nat × Bool)} {e : TypeId} {i : TypeInfo} {z : Value} (hi : P.info? e = some i) (hz : i.zero = some z)
    (hvc : vcOp P B (.alloc e z.cells.toList) f prot S K) (hst : St B ρ S w) (hp : ∀ k, k + 1 ∈ prot → k < S.σ.length) :
    OpPost P ((execOp ev ⟨dst, .alloc e, type, pos, after, guard⟩).run P w) (OpR B prot S K ρ) := by
  have hok : (execOp ev ⟨dst, .alloc e, type, pos, after, guard⟩).run P w = .ok (.value (.pointer (some ⟨w.heap.size, 0, none⟩))) (w.alloc (.cells z.cells e)) := by
    simp only [execOp, Instr.alloc, zeroValue, typeInfo, Sem.run_bind, run_program, Result.andThen_ok, hi, hz, Sem.run_pure, newVar, newRow, newObj]
    simp [Sem.run]
  rw [hok]
  simp only [vcOp] at hvc
  have hl : ∀ c ∈ z.cells.toList.map PV.v, c.lt S.σ.length := fun c hc => by obtain ⟨y, _, rfl⟩ := List.mem_map.1 hc; trivial
  have hn := hst.newLoc hl e
  rw [PV.real_v] at hn
  refine ⟨_, _, _, ?_, newLoc_agree, newLoc_grow hp _, ?_, hn, hvc⟩
  · show _ = GV.real _ (.lp S.σ.length 0)
    simp [GV.real]
  · show S.σ.length < _
    simp

theorem o_box {dst : Option Nat} {type : TypeId} {pos : String} {after : Array Edge} {guard : Option (Nat × Bool)} {e : TypeId} {x : Operand}
    (hvc : vcOp P B (.box e x) f prot S K) (hlt : ∀ i, (f i).lt S.σ.length) (hev : ∀ x, ev x = (evG f x).real ρ) (hst : St B ρ S w) (hp : ∀ k, k + 1 ∈ prot → k < S.σ.length) :
    OpPost P ((execOp ev ⟨dst, .box e x, type, pos, after, guard⟩).run P w) (OpR B prot S K ρ) := by
  simp only [vcOp] at hvc
  split at hvc
  · rename_i hc
    rw [forceP_eq] at hvc
    have e1 := hev x
    have hcr := GV.cells_real ρ hc
    have hok : (execOp ev ⟨dst, .box e x, type, pos, after, guard⟩).run P w = .ok (.value (.pointer (some ⟨w.heap.size, 0, none⟩))) (w.alloc (.cells ⟨(evG f x).cells.map (PV.real ρ)⟩ e)) := by
      have hcc : ((evG f x).real ρ).cells = ⟨(evG f x).cells.map (PV.real ρ)⟩ := by rw [← Array.toList_inj]; exact hcr
      simp only [execOp, Instr.box, e1, newVar, newRow, newObj, hcc, Sem.run_bind]
      simp [Sem.run]
    rw [hok]
    have hn := hst.newLoc (GV.cells_lt (evG_lt hlt x)) e
    refine ⟨_, _, _, ?_, newLoc_agree, newLoc_grow hp _, ?_, hn, hvc⟩
    · show _ = GV.real _ (.lp S.σ.length 0)
      simp [GV.real]
    · show S.σ.length < _
      simp
  · exact hvc.elim

theorem made_flat (z : List Value) (hz : 0 < z.length) : ∀ c : Nat, (madeCells ⟨z⟩ (c * z.length)).toList = (List.replicate c z).flatten
  | 0 => by simp [madeCells]
  | c + 1 => by
    have ih := made_flat z hz c
    simp only [madeCells, Array.toList_map, Array.toList_range] at ih ⊢
    rw [Nat.succ_mul, List.range_add, List.map_append, List.map_map, ih, List.replicate_succ', List.flatten_append]
    congr 1
    simp only [List.flatten_cons, List.flatten_nil, List.append_nil]
    apply List.ext_getElem
    · simp
    · intro i h1 h2
      simp only [List.length_map, List.length_range] at h1
      simp [Nat.add_comm, Nat.add_mul_mod_self_right, Nat.mod_eq_of_lt h2, h2]

theorem flatten_map_v : ∀ (n : Nat) (z : List Value), (List.replicate n (z.map PV.v)).flatten = ((List.replicate n z).flatten).map PV.v
  | 0, _ => rfl
  | n + 1, z => by simp only [List.replicate_succ, List.flatten_cons, List.map_append, flatten_map_v n z]

theorem resPartsE_rel (sz : Nat) : ∀ parts : List (Nat × Operand), PartsRel (fun i => some (i * sz, sz)) parts (resPartsE sz parts)
  | [] => trivial
  | (_, _) :: r => ⟨rfl, rfl, resPartsE_rel sz r⟩

theorem o_bslice {dst : Option Nat} {type : TypeId} {pos : String} {after : Array Edge} {guard : Option (Nat × Bool)} {t e : TypeId} {len : Nat} {parts : Array (Nat × Operand)} {i : TypeInfo} {z : Value}
    (hu : P.underlying t = some (.slice e)) (hi : P.info? e = some i) (hz : i.zero = some z) (hb : (Nat.beq z.cells.size i.size && !Nat.beq i.size 0) = true) (hlen : Nat.beq len 0 = false)
    (hvc : vcOp P B (.bslice e z.cells.toList len i.size (resPartsE i.size parts.toList)) f prot S K) (hev : ∀ x, ev x = (evG f x).real ρ) (hst : St B ρ S w) :
    OpPost P ((execOp ev ⟨dst, .buildSlice t len parts, type, pos, after, guard⟩).run P w) (OpR B prot S K ρ) := by
  simp only [Bool.and_eq_true, Bool.not_eq_true'] at hb
  have hzs := Nat.eq_of_beq_eq_true hb.1
  have hpos : 0 < i.size := by
    rcases Nat.eq_zero_or_pos i.size with h | h
    · rw [h] at hb; cases hb.2
    · exact h
  simp only [vcOp] at hvc
  split at hvc
  · rename_i cs hf
    split at hvc
    · rename_i vs hp
      obtain ⟨hsm, hK⟩ := hvc
      have hsm := ble_le hsm
      have hzl : z.cells.toList.length = i.size := by rw [Array.length_toList, hzs]
      have hinit : (⟨((List.replicate len (z.cells.toList.map PV.v)).flatten).map (PV.real ρ)⟩ : Array Value) = (Array.range (len * i.size)).map (z.cells[· % z.cells.size]!) := by
        rw [flatten_map_v, PV.real_v]
        have := made_flat z.cells.toList (by rw [hzl]; exact hpos) len
        rw [hzl] at this
        rw [← this]
        rfl
      have hfill := fill_sound (ρ := ρ) (ev := ev) (resPartsE_rel i.size parts.toList) (fun p _ => hev p.2) hf
      rw [hinit, plain_real ρ hp] at hfill
      have h2 : (parts.map fun (x : Nat × Operand) => (x.1, ev x.2)).toList = parts.toList.map fun p => (p.1, ev p.2) := Array.toList_map ..
      have hok : (execOp ev ⟨dst, .buildSlice t len parts, type, pos, after, guard⟩).run P w = .ok (.value (.slice (some ⟨w.heap.size, 0, none⟩) len len)) (w.alloc (.cells ⟨vs⟩ e)) := by
        have h0 : ¬ len = 0 := fun h => by rw [h] at hlen; cases hlen
        have hmul : ¬ len * i.size = 0 := by
          rw [Nat.mul_eq_zero]; omega
        simp only [execOp, Sem.run_bind]
        rw [run_buildSlice w t e len _ ⟨vs⟩ i z hu hi hz (by omega) hmul (by rw [h2]; exact hfill)]
        rfl
      rw [hok]
      obtain ⟨hle, hn⟩ := hst.newBlock (.cells ⟨vs⟩ e)
      refine ⟨.v _, { S with W := S.W.grown w hst.vsize (.cells ⟨vs⟩ e) }, ρ, rfl, fun _ _ => rfl, ⟨Nat.le_refl _, hle, ⟨fun _ _ => rfl, fun _ _ _ h => h⟩⟩, trivial, hn, hK _ _ hle fun j v hj => ⟨.inr ?_, ?_⟩⟩
      · rw [block_add]
      · rw [add_lit]
        show (w.alloc _).cell? _ = _
        simp [World.cell?_alloc_new, hj]
    · exact hvc.elim
  · exact hvc.elim

theorem o_mkslice {dst : Option Nat} {type : TypeId} {pos : String} {after : Array Edge} {guard : Option (Nat × Bool)} {t e : TypeId} {l c : Operand} {i : TypeInfo} {z : Value}
    (hu : P.underlying t = some (.slice e)) (hi : P.info? e = some i) (hz : i.zero = some z) (hb : (Nat.beq z.cells.size i.size && !Nat.beq i.size 0) = true)
    (hvc : vcOp P B (.mkslice e i.size i.bytes z.cells.toList l c) f prot S K) (hev : ∀ x, ev x = (evG f x).real ρ) (hst : St B ρ S w) :
    OpPost P ((execOp ev ⟨dst, .makeSlice t l c, type, pos, after, guard⟩).run P w) (OpR B prot S K ρ) := by
  simp only [Bool.and_eq_true, Bool.not_eq_true'] at hb
  have hzs := Nat.eq_of_beq_eq_true hb.1
  have hpos : 0 < i.size := by
    rcases Nat.eq_zero_or_pos i.size with h | h
    · rw [h] at hb; cases hb.2
    · exact h
  simp only [vcOp] at hvc
  split at hvc
  · rename_i k n k' m hl hc
    obtain ⟨⟨h0, h1, h2, h3⟩, hK⟩ := hvc
    have e1 := hev l; rw [hl] at e1
    have e2 := hev c; rw [hc] at e2
    have hrun := run_make (P := P) w t e i z hu hi hz k k' n m h0 h1 (by omega) (by simp only [maxLen] at h2; omega)
    have hok : (execOp ev ⟨dst, .makeSlice t l c, type, pos, after, guard⟩).run P w = .ok (.value (.slice (some ⟨w.heap.size, 0, none⟩) n.toNat m.toNat)) (w.alloc (.cells (madeCells z.cells (m.toNat * i.size)) e)) := by
      simp only [execOp, e1, e2, GV.real, Sem.run_bind, hrun]; rfl
    rw [hok]
    have hzl : z.cells.toList.length = i.size := by rw [Array.length_toList, hzs]
    have hown : (w.alloc (.cells (madeCells z.cells (m.toNat * i.size)) e)).ownsRow 0 e i.size (.slice (some ⟨w.heap.size, 0, none⟩) n.toNat m.toNat) n.toNat ((List.replicate n.toNat z.cells.toList).flatten) := by
      refine ⟨by simp [hzl], .inr ⟨w.heap.size, m.toNat, _, rfl, Nat.zero_le _, heap_alloc_new w _, by omega, by simp only [maxLen] at h2 ⊢; omega, by rw [size_madeCells], ?_⟩⟩
      have hm := made_flat z.cells.toList (by rw [hzl]; exact hpos) m.toNat
      rw [hzl] at hm
      have hm' : (madeCells z.cells (m.toNat * i.size)).toList = (List.replicate m.toNat z.cells.toList).flatten := hm
      rw [hm']
      have hnm : m.toNat = n.toNat + (m.toNat - n.toNat) := by omega
      rw [hnm, ← List.replicate_append_replicate, List.flatten_append]
      exact List.take_left' (by simp [hzl])
    exact ⟨.v _, { S with O := S.O ++ [_] }, ρ, rfl, fun _ _ => rfl, ⟨Nat.le_refl _, PW.Le.refl _, ⟨fun _ _ => rfl, fun _ i o h => by show (S.O ++ [_])[i]? = _; rw [List.getElem?_append_left (List.getElem?_eq_some_iff.1 h).1]; exact h⟩⟩, trivial, hst.newOwn (o := ⟨.slice (some ⟨w.heap.size, 0, none⟩) n.toNat m.toNat, e, i.size, n.toNat, _⟩) hown rfl, hK _⟩
  · exact hvc.elim

theorem o_s2b {dst : Option Nat} {type : TypeId} {pos : String} {after : Array Edge} {guard : Option (Nat × Bool)} {src t e : TypeId} {x : Operand}
    (hs : P.underlying src = some .string) (hd : P.underlying t = some (.slice e)) (he : P.underlying e = some (.int .u8))
    (hvc : vcOp P B (.s2b e x) f prot S K) (hev : ∀ x, ev x = (evG f x).real ρ) (hst : St B ρ S w) :
    OpPost P ((execOp ev ⟨dst, .convert src t x, type, pos, after, guard⟩).run P w) (OpR B prot S K ρ) := by
  simp only [vcOp] at hvc
  split at hvc
  · rename_i s hx
    have e1 := hev x; rw [hx] at e1
    have hrun := run_bytes_of_string (P := P) w src t e s hs hd he
    have hok : (execOp ev ⟨dst, .convert src t x, type, pos, after, guard⟩).run P w = .ok (.value (.slice (some ⟨w.heap.size, 0, none⟩) s.size (grownCap w s.size 0 e))) (w.drew.alloc (.cells (bytesRow s (grownCap w s.size 0 e)) e ((bytesRow s (grownCap w s.size 0 e)).size, (bytesRow s (grownCap w s.size 0 e)).size + 1))) := by
      simp only [execOp, e1, GV.real, Sem.run_bind, hrun, Result.andThen_ok, Sem.run_pure]
    rw [hok]
    obtain ⟨hle, hn⟩ := hst.drew.newBlock (.cells (bytesRow s (grownCap w s.size 0 e)) e ((bytesRow s (grownCap w s.size 0 e)).size, (bytesRow s (grownCap w s.size 0 e)).size + 1))
    refine ⟨.v _, { S with W := S.W.grown w.drew _ _ }, ρ, rfl, fun _ _ => rfl, ⟨Nat.le_refl _, hle, ⟨fun _ _ => rfl, fun _ _ _ h => h⟩⟩, trivial, hn, hvc.2 _ _ _ hle (grownCap_ge w s.size 0 e) (grownCap_le_maxLen w s.size 0 e hvc.1) fun j v hj => ⟨.inr (by rw [block_add]; rfl), ?_⟩⟩
    rw [add_lit, Nat.zero_add]
    show (w.drew.alloc _).cell? ⟨w.drew.heap.size, j, none⟩ = _
    rw [World.cell?_alloc_mark, bytesRow]
    have hlt : j < s.data.toList.length := by have := (List.getElem?_eq_some_iff.1 hj).1; simpa using this
    rw [← Array.getElem?_toList]
    simp only [Array.toList_append, Array.toList_map]
    rw [List.getElem?_append_left (by simpa using hlt)]
    exact hj
  · exact hvc.elim

theorem own_form {w : World} {e : TypeId} {sz : Nat} {v : Value} {n : Nat} {xs : List Value} (h : w.ownsRow 0 e sz v n xs) : ∃ A c, v = .slice A n c := by
  rcases h.2 with ⟨rfl, rfl⟩ | ⟨g, cap, cur, rfl, _⟩
  · exact ⟨_, _, rfl⟩
  · exact ⟨_, _, rfl⟩

theorem run_append_nil' (base : Nat) (t ty e : TypeId) (i : TypeInfo) (size : Nat) (ht : P.underlying t = some (.slice e)) (hi : P.info? e = some i)
    (v : Value) (n : Nat) (xs : List Value) (hown : w.ownsRow base e size v n xs) (c : Nat) : (Builtin.append_ #[t, t] ty #[v, .slice none 0 c]).run P w = .ok v w := by
  rcases hown.2 with ⟨rfl, rfl⟩ | ⟨g, cap, cur, rfl, _, _, hnc, _⟩
  · simp [Builtin.append_, run_underlying ht, sizeOf, typeInfo, hi, Builtin.lenOf, Builtin.firstCells]
  · simp [Builtin.append_, run_underlying ht, sizeOf, typeInfo, hi, Builtin.lenOf, Builtin.firstCells, hnc, storeCells]

theorem o_append {dst : Option Nat} {type : TypeId} {pos : String} {after : Array Edge} {guard : Option (Nat × Bool)} {t e : TypeId} {d s : Operand} {i : TypeInfo} {z : Value}
    (hu : P.underlying t = some (.slice e)) (hi : P.info? e = some i) (hz : i.zero = some z) (hb : (Nat.beq z.cells.size i.size && !Nat.beq i.size 0) = true)
    (hvc : vcOp P B (.append e i.size i.bytes d s) f prot S K) (hev : ∀ x, ev x = (evG f x).real ρ) (hst : St B ρ S w) :
    OpPost P ((execOp ev ⟨dst, .call { callee := .builtin .append, args := #[d, s], argTypes := #[t, t] }, type, pos, after, guard⟩).run P w) (OpR B prot S K ρ) := by
  simp only [Bool.and_eq_true, Bool.not_eq_true'] at hb
  have hzs := Nat.eq_of_beq_eq_true hb.1
  have hpos : 0 < i.size := by
    rcases Nat.eq_zero_or_pos i.size with h | h
    · rw [h] at hb; cases hb.2
    · exact h
  simp only [vcOp] at hvc
  split at hvc
  · rename_i dv A m c hd hs
    obtain ⟨j, o, news, hj, rfl, rfl, hsz, hnl, hone, hsrc, h63, hby, h0, hK⟩ := hvc
    have e1 := hev d; rw [hd] at e1
    have e2 := hev s; rw [hs] at e2
    obtain ⟨h1, h2⟩ := hst.own j o hj
    have hrun : ∃ v' w', (Builtin.append_ #[t, t] type #[o.v, .slice A m c]).run P w = .ok v' w' ∧ w'.ownsRow 0 o.e i.size v' (o.n + m) (o.cs ++ news) ∧ w.grownBy w' o.v.ownBlock ∧ (v'.ownBlock = o.v.ownBlock ∨ v'.ownBlock = some w.heap.size) := by
      rw [hsz] at h1
      rcases Nat.eq_zero_or_pos m with hm0 | hm0
      · subst hm0
        have hn : news = [] := List.eq_nil_of_length_eq_zero (by simpa using hnl)
        subst hn
        cases A with
        | none => exact ⟨o.v, w, run_append_nil' 0 t type o.e i i.size hu hi o.v o.n o.cs h1 c, by simpa using h1, World.grownBy.refl w _, .inl rfl⟩
        | some a =>
          obtain ⟨v', w', hr, ho, hg, _, hbk⟩ := run_append_own_at (P := P) w 0 t type o.e i z i.size i.bytes hu hi hz rfl rfl hzs hpos o.v o.n o.cs h1 a 0 c [] (by simp) (fun j u hj => by cases hj) hone h63 hby (Nat.zero_le _)
          exact ⟨v', w', hr, ho, hg, hbk⟩
      · obtain ⟨a, rfl, hrd⟩ := hsrc hm0
        obtain ⟨v', w', hr, ho, hg, _, hbk⟩ := run_append_own_at (P := P) w 0 t type o.e i z i.size i.bytes hu hi hz rfl rfl hzs hpos o.v o.n o.cs h1 a m c news hnl (fun j u hj => hst.rdO (PW.Le.refl _) (fun _ _ h => h) (hrd j u hj)) hone h63 hby (Nat.zero_le _)
        exact ⟨v', w', hr, ho, hg, hbk⟩
    obtain ⟨v', w', hr, ho, hg, hbk⟩ := hrun
    obtain ⟨A', c', rfl⟩ := own_form ho
    have hok : (execOp ev ⟨dst, .call { callee := .builtin .append, args := #[d, s], argTypes := #[t, t] }, type, pos, after, guard⟩).run P w = .ok (.value (.slice A' (o.n + m) c')) w' := by
      simp only [execOp, resolve, invoke, builtin, Sem.run_bind, Sem.run_pure, Result.andThen_ok, List.map_toArray, List.map_cons, List.map_nil, e1, e2, GV.real, hr]
    rw [hok]
    exact ⟨.v _, { S with O := S.O.set j _ }, ρ, rfl, fun _ _ => rfl, ⟨Nat.le_refl _, PW.Le.refl _, ⟨fun _ _ => rfl, fun h => absurd h (not_mem_of h0)⟩⟩, trivial, hst.setOwn (o' := ⟨.slice A' (o.n + m) c', o.e, i.size, o.n + m, o.cs ++ news⟩) hj hg ho hbk, hK A' c'⟩
  · exact hvc.elim

theorem callFunc_run {fid : FuncId} (h : Callable P fid) (args : Array Value) (w : World) : (callFunc fid args).run P w = .ok (.enter fid args) w := by
  obtain ⟨fn, h1, h2, h3⟩ := h
  have h3' : ¬ (fn.name == "runtime.NumGoroutine") = true := by rw [h3]; exact Bool.false_ne_true
  have h2' : ¬ fn.body.isNone = true := by rw [h2]; exact Bool.false_ne_true
  simp only [callFunc, Sem.run_bind, run_program, Result.andThen_ok, h1, if_neg h3', if_neg h2', Sem.run_pure]

theorem callVC_post {fid : FuncId} {args : List GV} (h : CallVC P B fid args prot S K) (hst : St B ρ S w) : OpPost P (.ok (.enter fid ⟨args.map (GV.real ρ)⟩) w) (OpR B prot S K ρ) := by
  refine (h.2 ρ w hst).mono fun e w' ⟨g, S', ρ', he, h1, h2, h3, h4, h5⟩ => ?_
  exact ⟨_, he, g, S', ρ', rfl, h1, h2, h3, h4, h5⟩

theorem o_call {dst : Option Nat} {type : TypeId} {pos : String} {after : Array Edge} {guard : Option (Nat × Bool)} {fid : FuncId} {args : Array Operand} {ts : Array TypeId}
    (hvc : vcOp P B (.call fid args.toList) f prot S K) (hev : ∀ x, ev x = (evG f x).real ρ) (hst : St B ρ S w) :
    OpPost P ((execOp ev ⟨dst, .call { callee := .value (.func fid), args := args, argTypes := ts }, type, pos, after, guard⟩).run P w) (OpR B prot S K ρ) := by
  simp only [vcOp] at hvc
  have e1 := hev (.func fid)
  have ha : args.map ev = ⟨(evs f args.toList).map (GV.real ρ)⟩ := by
    rw [← Array.toList_inj, Array.toList_map]; exact evs_real fun x _ => hev x
  have hok : (execOp ev ⟨dst, .call { callee := .value (.func fid), args := args, argTypes := ts }, type, pos, after, guard⟩).run P w = .ok (.enter fid ⟨(evs f args.toList).map (GV.real ρ)⟩) w := by
    simp only [execOp, resolve, e1, evG, GV.real, Deferred.ofValue, Sem.run_bind, Sem.run_pure, Result.andThen_ok, invoke, Array.empty_append, Array.append_empty, ha, callFunc_run hvc.1]
  rw [hok]
  exact callVC_post hvc hst

theorem gvs_real (ρ : Nat → Nat) (caps : List PV) : (caps.map PV.gv).map (GV.real ρ) = caps.map (PV.real ρ) := by
  rw [List.map_map]; exact List.map_congr_left fun c _ => PV.gv_real ρ c
theorem gvv_real (ρ : Nat → Nat) (l : List Value) : (l.map GV.v).map (GV.real ρ) = l := by
  rw [List.map_map]; exact (List.map_congr_left fun _ _ => rfl).trans (List.map_id l)

theorem o_callv {dst : Option Nat} {type : TypeId} {pos : String} {after : Array Edge} {guard : Option (Nat × Bool)} {x : Operand} {args : Array Operand} {ts : Array TypeId}
    (hvc : vcOp P B (.callv x args.toList) f prot S K) (hev : ∀ x, ev x = (evG f x).real ρ) (hst : St B ρ S w) :
    OpPost P ((execOp ev ⟨dst, .call { callee := .value x, args := args, argTypes := ts }, type, pos, after, guard⟩).run P w) (OpR B prot S K ρ) := by
  simp only [vcOp] at hvc
  have e1 := hev x
  have ha : args.map ev = ⟨(evs f args.toList).map (GV.real ρ)⟩ := by
    rw [← Array.toList_inj, Array.toList_map]; exact evs_real fun x _ => hev x
  split at hvc
  · rename_i fid first caps hx
    rw [hx] at e1
    have hok : (execOp ev ⟨dst, .call { callee := .value x, args := args, argTypes := ts }, type, pos, after, guard⟩).run P w =
        .ok (.enter fid ⟨(first.toList.map GV.v ++ evs f args.toList ++ caps.toList.map GV.v).map (GV.real ρ)⟩) w := by
      have harr : (⟨(first.toList.map GV.v ++ evs f args.toList ++ caps.toList.map GV.v).map (GV.real ρ)⟩ : Array Value) = first ++ ⟨(evs f args.toList).map (GV.real ρ)⟩ ++ caps := by
        rw [List.map_append, List.map_append, gvv_real, gvv_real]
        apply Array.ext'
        simp
      simp only [execOp, resolve, e1, GV.real, Deferred.ofValue, Sem.run_bind, Sem.run_pure, Result.andThen_ok, invoke, ha, callFunc_run hvc.1, harr]
    rw [hok]
    exact callVC_post hvc hst
  · rename_i fid caps hx
    rw [hx] at e1
    have hok : (execOp ev ⟨dst, .call { callee := .value x, args := args, argTypes := ts }, type, pos, after, guard⟩).run P w =
        .ok (.enter fid ⟨(evs f args.toList ++ caps.map PV.gv).map (GV.real ρ)⟩) w := by
      have harr : (⟨(evs f args.toList ++ caps.map PV.gv).map (GV.real ρ)⟩ : Array Value) = ⟨(evs f args.toList).map (GV.real ρ)⟩ ++ ⟨caps.map (PV.real ρ)⟩ := by
        rw [List.map_append, gvs_real]
        apply Array.ext'
        simp
      simp only [execOp, resolve, e1, GV.real, Deferred.ofValue, Sem.run_bind, Sem.run_pure, Result.andThen_ok, invoke, Array.empty_append, ha, callFunc_run hvc.1, harr]
    rw [hok]
    exact callVC_post hvc hst
  · exact hvc.elim

end
end Go.Proofs.Ytcgbcbdgjhnlaaa
