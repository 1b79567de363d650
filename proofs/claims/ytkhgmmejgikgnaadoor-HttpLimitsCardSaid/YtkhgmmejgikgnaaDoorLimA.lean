/- 'append(b, make([]byte, n)...)' upon a text's bytes: in the row where it has room (zeros upon zeros), else a row of its own. -/
import Derived.Test.YtkhgmmejgikgnaaDoorHttF
import Derived.Laws.IdiomCopy
import Derived.Lib.AppendZerosOnto
namespace Go.Proofs.YtkhgmmejgikgnaaDoor
open Go.RowKit

theorem zero_cells (n : Nat) : Builtin.zeroCells (Value.int .u8 0).cells n = Array.replicate n (.int .u8 0) := by
  apply Array.ext
  · simp [Builtin.zeroCells, Value.cells]
  · intro i h1 h2
    simp [Builtin.zeroCells, Value.cells, Nat.mod_one]
theorem setCell_same {w : World} {b o : Nat} {v : Value} (h : w.cell? ⟨b, o, none⟩ = some v) : w.setCell ⟨b, o, none⟩ v = w := by
  have e : (w.setCell ⟨b, o, none⟩ v).heap = w.heap := by
    unfold World.setCell
    apply Array.ext_getElem?
    intro k
    dsimp only
    rw [Array.getElem?_modify]
    split
    · rename_i hk
      subst hk
      unfold World.cell? at h
      dsimp only at h
      cases hb : w.heap[b]? with
      | none => rfl
      | some x =>
        rw [hb] at h
        cases x with
        | cells c t m =>
          have hc : c[o]? = some v := by simpa using h
          have hs : c.setIfInBounds o v = c := by
            apply Array.ext_getElem?
            intro j
            rw [Array.getElem?_setIfInBounds]
            split
            · rename_i hj; subst hj
              rw [hc, if_pos (Array.getElem?_eq_some_iff.1 hc).1]
            · rfl
          simp [hs]
        | _ => simp at h ⊢
    · rfl
  have e2 : w.setCell ⟨b, o, none⟩ v = { w with heap := (w.setCell ⟨b, o, none⟩ v).heap } := rfl
  rw [e2, e]
theorem setCells_same {w : World} {b : Nat} : ∀ (vs : List Value) (o : Nat), (∀ j x, vs[j]? = some x → w.cell? ⟨b, o + j, none⟩ = some x) → w.setCells b o vs = w
  | [], _, _ => rfl
  | v :: r, o, h => by
    rw [World.setCells, setCell_same (by have := h 0 v rfl; rwa [Nat.add_zero] at this)]
    exact setCells_same r (o + 1) fun j x hj => by rw [show o + 1 + j = o + (j + 1) by omega]; exact h (j + 1) x hj
theorem bytes_cells {s : ByteArray} {c j : Nat} (hj : s.size ≤ j) (hc : j < c) : (bytesRow s c)[j]? = some (.int .u8 0) := by
  have hs : s.data.size = s.size := rfl
  unfold bytesRow
  rw [Array.getElem?_append_right (by rw [Array.size_map]; omega), Array.size_map, Array.getElem?_replicate, if_pos (by omega)]
theorem bytes_front {s : ByteArray} {c j : Nat} {v : Value} (h : (s.data.toList.map byteV)[j]? = some v) : (bytesRow s c)[j]? = some v := by
  have hlt : j < s.data.toList.length := by have := (List.getElem?_eq_some_iff.1 h).1; simpa using this
  unfold bytesRow
  rw [← Array.getElem?_toList]
  simp only [Array.toList_append, Array.toList_map]
  rw [List.getElem?_append_left (by simpa using hlt)]
  exact h
section
variable {P : Program} {B : Base}
theorem raw_zeros {o : Oper} {t tn e e' : TypeId} {info : TypeInfo} {x y : Operand} {f : Fr} {prot : List Nat} {S : GS} {K : GV → GS → Prop} {s : ByteArray} {b c d n : Nat} (hnn : s.data.toList.length = n) (ho : o.op = .call { callee := .builtin .append, args := #[x, y], argTypes := #[t, tn] })
    (ht : P.underlying t = some (.slice e)) (htn : P.underlying tn = some (.int .i64)) (hi : P.info? e = some info) (hz : info.zero = some (.int .u8 0)) (hs1 : info.size = 1) (hby : info.bytes = 1)
    (hx : evG f x = .v (.slice (some ⟨b, 0, none⟩) n c)) (hy : evG f y = .v (.int .i64 (d : Nat))) (hA : S.W.A b) (hat : S.W.w.heap[b]? = some (.cells (bytesRow s c) e' (c, c + 1))) (hrd : Rds S.W ⟨b, 0, none⟩ (s.data.toList.map byteV))
    (hc : n ≤ c) (hcm : c ≤ maxLen) (hn : n ≤ 1000000) (hd : d ≤ 1000000)
    (hK : ∀ (b' c' : Nat) (W' : PW), S.W.Le W' → n + d ≤ c' → c' ≤ maxLen → Rds W' ⟨b', 0, none⟩ ((s.data.toList ++ List.replicate d 0).map byteV) → K (.v (.slice (some ⟨b', 0, none⟩) (n + d) c')) (S.setW W')) : RawVC P B o f prot S K := by
  refine ⟨fun ρ w ev hev hst => ?_⟩
  have hsz : s.size = n := hnn
  obtain ⟨dst, op, type, pos, after, guard⟩ := o
  obtain rfl : op = .call { callee := .builtin .append, args := #[x, y], argTypes := #[t, tn] } := ho
  have e1 : ev x = .slice (some ⟨b, 0, none⟩) n c := by rw [hev, hx]; rfl
  have e2 : ev y = .int .i64 (d : Nat) := by rw [hev, hy]; rfl
  have hw : w.heap[b]? = some (.cells (bytesRow s c) e' (c, c + 1)) := by rw [hst.vblock b hA]; exact hat
  have hcell : ∀ j, w.cell? ⟨b, j, none⟩ = (bytesRow s c)[j]? := fun j => by unfold World.cell?; rw [hw]; rfl
  have hex : ∀ {v' : Value} {w' : World}, (Builtin.append_ #[t, tn] type #[.slice (some ⟨b, 0, none⟩) n c, .int .i64 (d : Nat)]).run P w = .ok v' w' →
      (execOp ev ⟨dst, .call { callee := .builtin .append, args := #[x, y], argTypes := #[t, tn] }, type, pos, after, guard⟩).run P w = .ok (.value v') w' := fun h => by
    simp only [execOp, resolve, invoke, builtin, Sem.run_bind, Sem.run_pure, Result.andThen_ok, List.map_toArray, List.map_cons, List.map_nil, e1, e2, h]
  by_cases hroom : n + d ≤ c
  · have hrun : (Builtin.append_ #[t, tn] type #[.slice (some ⟨b, 0, none⟩) n c, .int .i64 (d : Nat)]).run P w = .ok (.slice (some ⟨b, 0, none⟩) (n + d) c) w := by
      have hwr : IntKind.i64.wrap ((d : Nat) : Int) = (d : Nat) := by rw [IntKind.wrap_i64]; omega
      have h1 : ¬ ((d : Int) < 0) := by omega
      have h2 : ¬ (281474976710656 < (d : Int)) := by omega
      rcases Nat.eq_zero_or_pos d with h0 | h0
      · subst h0
        simp [Builtin.append_, run_underlying ht, run_underlying htn, sizeOf, typeInfo, hi, asInt, asIntOf, hby, hc, storeCells, IntKind.wrap_i64]
      · have hne : ¬ d = 0 := by omega
        have hst2 : (storeCells (⟨b, n, none⟩ : Addr) (List.replicate d (.int .u8 0))).run P w = .ok () w := by
          have h := run_storeCells_cells (P := P) b n (List.replicate d (.int .u8 0)) 0 w (fun j hj => by
              rw [List.length_replicate] at hj
              rw [hcell, bytes_cells (by omega) (by omega)]; rfl) (fun j hj => by
              rw [List.length_replicate] at hj
              unfold World.frozen?
              rw [hw]
              simp; omega) (fun v hv => by rw [(List.mem_replicate.1 hv).2]; rfl)
          rw [h, setCells_same]
          intro j v hj
          have hlt := (List.getElem?_eq_some_iff.1 hj).1
          rw [List.length_replicate] at hlt
          rw [List.getElem?_replicate, if_pos hlt] at hj
          rw [hcell, bytes_cells (by omega) (by omega)]
          exact hj
        have hadd : (⟨b, 0, none⟩ : Addr).add (n * 1) = ⟨b, n, none⟩ := by rw [add_lit]; simp
        simp [Builtin.append_, run_underlying ht, run_underlying htn, sizeOf, typeInfo, zeroValue, hi, hz, asInt, asIntOf, hs1, hby, hwr, h1, h2, hroom, hne, zero_cells]
        rw [Nat.mul_one] at hadd
        rw [hadd, hst2]; rfl
    exact ⟨.v _, S, ρ, w, hex hrun, fun _ _ => rfl, Grow.refl _ _, trivial, hst, hK b c S.W (PW.Le.refl _) hroom hcm fun j v hj => by
      rw [List.map_append, List.map_replicate] at hj
      rcases Nat.lt_or_ge j n with h | h
      · rw [List.getElem?_append_left (by rw [List.length_map]; omega)] at hj
        exact hrd j v hj
      · rw [List.getElem?_append_right (by rw [List.length_map]; omega), List.length_map, hnn] at hj
        have hlt := (List.getElem?_eq_some_iff.1 hj).1
        rw [List.length_replicate] at hlt
        rw [List.getElem?_replicate, if_pos hlt] at hj
        refine ⟨by rw [block_add]; exact hA, ?_⟩
        rw [add_lit, Nat.zero_add]
        unfold World.cell?
        rw [hat]
        show (bytesRow s c)[j]? = _
        rw [bytes_cells (by omega) (by omega)]
        exact hj⟩
  · have h0 : 0 < d := by omega
    have hgr := nextslicecap_le (need := n + d) (old := c) (by omega)
    have hrun := Lib.run_append_grow_zeros (P := P) w t tn type e info (.int .u8 0) .i64 .i64 ht htn hi hz (some ⟨b, 0, none⟩) n c (s.data.toList.map byteV) (by
        have h := run_loadCells_list (P := P) w.drew ⟨b, 0, none⟩ (s.data.toList.map byteV) (fun j v hj => by
          rw [add_lit, Nat.zero_add]
          show w.cell? _ = _
          rw [hcell]; exact bytes_front hj)
        rw [List.length_map, hnn] at h
        show (loadCells ⟨b, 0, none⟩ (n * info.size)).run P w.drew = _
        rw [hs1, Nat.mul_one]; exact h) d h0 (by omega) (by omega) (by omega) (by rw [hby]; omega) (by rw [hby]; omega)
    rw [zero_cells, zero_cells] at hrun
    obtain ⟨hle, hn'⟩ := hst.drew.newBlock (.cells ((s.data.toList.map byteV).toArray ++ Array.replicate d (.int .u8 0) ++ Array.replicate (grownCap w (n + d) c e - (n + d)) (.int .u8 0)) e)
    refine ⟨.v _, { S with W := S.W.grown w.drew _ _ }, ρ, _, hex hrun, fun _ _ => rfl, ⟨Nat.le_refl _, hle, ⟨fun _ _ => rfl, fun _ _ _ h => h⟩⟩, trivial, hn', hK _ _ _ hle (grownCap_ge w (n + d) c e) (grownCap_le_maxLen w (n + d) c e (Nat.le_trans (show n + d ≤ 100000000 by omega) (by decide))) fun j v hj => ⟨.inr (by rw [block_add]; rfl), ?_⟩⟩
    rw [add_lit, Nat.zero_add]
    show (w.drew.alloc _).cell? ⟨w.drew.heap.size, j, none⟩ = _
    rw [World.cell?_alloc_new, ← Array.getElem?_toList]
    simp only [Array.toList_append, Array.toList_replicate]
    rw [List.map_append, List.map_replicate] at hj
    have hlt := (List.getElem?_eq_some_iff.1 hj).1
    rw [List.getElem?_append_left (by simpa using hlt)]
    exact hj
end
end Go.Proofs.YtkhgmmejgikgnaaDoor
