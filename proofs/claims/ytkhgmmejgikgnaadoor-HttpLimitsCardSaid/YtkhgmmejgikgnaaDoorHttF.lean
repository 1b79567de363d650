/- Requests, walked: a literal of bytes that is converted to its own type; bytes.Cut; bytes.Clone. -/
import Derived.Test.YtkhgmmejgikgnaaDoorHttE
namespace Go.Proofs.YtkhgmmejgikgnaaDoor
open Go.RowKit

section
variable {P : Program} {B : Base}
/-- '[]byte("..")' of a constant: the literal's row gets a mark; it is not written any more. -/
theorem raw_mark {o : Oper} {t e : TypeId} {x : Operand} {f : Fr} {prot : List Nat} {S : GS} {K : GV → GS → Prop} {b n i : Nat} {e' : TypeId} {cs : List Value} (ho : o.op = .convert t t x) (ht : P.underlying t = some (.slice e)) (he : P.underlying e = some (.int .u8))
    (hx : evG f x = .v (.slice (some ⟨b, 0, none⟩) n n)) (hi : S.O[i]? = some ⟨.slice (some ⟨b, 0, none⟩) n n, e', 1, n, cs⟩) (hex : ∀ b, b ∈ B.ex → b ∈ B.rc) (h0 : prot.contains 0 = false)
    (hK : ∀ W', S.W.Le W' → Rds W' ⟨b, 0, none⟩ cs → K (.v (.slice (some ⟨b, 0, none⟩) n n)) ((S.setW W').modO fun O => O.eraseIdx i)) : RawVC P B o f prot S K := by
  refine ⟨fun ρ w ev hev hst => ?_⟩
  obtain ⟨h1, h2⟩ := hst.own i _ hi
  have h2 := h2 b rfl
  rcases h1.2 with ⟨hv, _⟩ | ⟨g, cap, cur, hv, _, hg, _, _, hsz, htk⟩
  · cases hv
  · simp only [Value.slice.injEq, Option.some.injEq, Addr.mk.injEq, true_and, and_true] at hv
    obtain ⟨rfl, rfl⟩ := hv
    dsimp only at hg hsz htk
    have hlt := heap_lt hg
    have hsh : w.shape? b = some (e', cur.size) := by unfold World.shape?; rw [hg]
    obtain ⟨w', hw'⟩ : ∃ w', w.freeze ⟨b, cur.size, none⟩ 1 = w' := ⟨_, rfl⟩
    have hheap : w'.heap = w.heap.modify b fun
        | .cells c elem (lo, hi) => .cells c elem (if lo == hi then (cur.size, cur.size + 1) else (min lo cur.size, max hi (cur.size + 1)))
        | o => o := by
      rw [← hw']; unfold World.freeze; rw [if_neg (by decide)]; rfl
    have hrest : w'.os = w.os ∧ w'.tape = w.tape ∧ w'.output = w.output := by
      rw [← hw']; unfold World.freeze; rw [if_neg (by decide)]; exact ⟨rfl, rfl, rfl⟩
    have hsize : w'.heap.size = w.heap.size := by rw [hheap, Array.size_modify]
    have hoth : ∀ c, c ≠ b → w'.heap[c]? = w.heap[c]? := fun c hc => by
      rw [hheap, Array.getElem?_modify, if_neg (Ne.symm hc)]
    have hat : w'.heap[b]? = some (.cells cur e' (cur.size, cur.size + 1)) := by
      rw [hheap, Array.getElem?_modify, if_pos rfl, hg]; rfl
    have hrun : (execOp ev o).run P w = .ok (.value (.slice (some ⟨b, 0, none⟩) n n)) w' := by
      obtain ⟨dst, op, type, pos, after, guard⟩ := o
      obtain rfl : op = .convert t t x := ho
      have e1 : ev x = .slice (some ⟨b, 0, none⟩) n n := by rw [hev, hx]; rfl
      have hc : (convert t t (.slice (some ⟨b, 0, none⟩) n n)).run P w = .ok (.slice (some ⟨b, 0, none⟩) n n) w' := by
        simp [convert, run_underlying ht, run_underlying he, markStringish, hsh]
        exact hw'
      simp only [execOp, e1, Sem.run_bind, Sem.run_pure, Result.andThen_ok, hc]
    have hnew : B.W.w.heap.size ≤ b := h2.2.1.elim (fun hb => by
      obtain ⟨k, hk⟩ := List.getElem?_of_mem (hex b hb)
      obtain ⟨r1, r2⟩ := hst.rc k b hk
      exact absurd r2 (h2.2.2 k r1)) id
    have hA : ∀ c, (S.W.A c ∨ c = b) → c < w'.heap.size := fun c hc => by
      rw [hsize]
      rcases hc with hc | rfl
      · exact hst.A_lt hc
      · exact hlt
    have hle : S.W.Le ⟨w', fun c => S.W.A c ∨ c = b, hA⟩ := ⟨by show _ ≤ w'.heap.size; rw [hsize]; exact hst.vsize, fun _ hc => .inl hc, fun c hc => by
      show w'.heap[c]? = _
      rw [hoth c (fun e => h2.1 (e ▸ hc))]; exact hst.vblock c hc⟩
    have hgr : w.grownBy w' (some b) := ⟨hrest.1, hrest.2.1, hrest.2.2, by rw [hsize]; exact Nat.le_refl _, fun k _ hne => hoth k fun e => hne (by rw [e])⟩
    refine ⟨.v (.slice (some ⟨b, 0, none⟩) n n), ⟨S.σ, S.O.eraseIdx i, ⟨w', fun c => S.W.A c ∨ c = b, hA⟩⟩, ρ, w', hrun, fun _ _ => rfl, ⟨Nat.le_refl _, hle, ⟨fun _ _ => rfl, fun hm => ?_⟩⟩, trivial, ?_, hK _ hle fun j v hj => ?_⟩
    · exact absurd (List.contains_iff_mem.2 hm) (by rw [h0]; exact Bool.false_ne_true)
    · refine ⟨⟨hrest.1.trans hst.keep.os, hrest.2.1.trans hst.keep.tape, hrest.2.2.trans hst.keep.output, by rw [hsize]; exact hst.keep.size, fun c hc hx => by rw [hoth c (by omega)]; exact hst.keep.block c hc hx⟩, Nat.le_refl _, fun _ _ => rfl, hst.mono.trans hle, fun c hc => ?_, fun k cs hk => ?_, fun k hk => ⟨fun hA => ?_, (hst.locA k hk).2⟩, hst.inj, hst.cells, hst.rc, fun j oj hj => ?_, fun j k oj ok c hj hk hbj hbk => ?_⟩
      · rcases hc with hc | rfl
        · exact hst.back c hc
        · exact .inr hnew
      · obtain ⟨e2, he2⟩ := hst.loc k cs hk
        exact ⟨e2, by rw [hoth _ (h2.2.2 k (List.getElem?_eq_some_iff.1 hk).1)]; exact he2⟩
      · rcases hA with hA | hA
        · exact (hst.locA k hk).1 hA
        · exact h2.2.2 k hk hA
      · obtain ⟨j', hne, hj', _⟩ := erase_mem j oj hj
        obtain ⟨g1, g2⟩ := hst.own j' oj hj'
        have hnb : oj.v.ownBlock ≠ some b := fun hb => hne (hst.sep j' i oj _ b hj' hi hb rfl)
        refine ⟨g1.kept hgr (.inr hnb), fun c hc => ⟨fun hA => hA.elim (g2 c hc).1 fun e => hnb (e ▸ hc), (g2 c hc).2⟩⟩
      · exact erase_sep hst j k oj ok c hj hk hbj hbk
    · refine ⟨.inr (by rw [block_add]), ?_⟩
      rw [add_lit, Nat.zero_add]
      show w'.cell? _ = _
      unfold World.cell?
      rw [hat]
      have : cur.toList.take (n * 1) = cs := htk
      rw [← this, List.getElem?_take] at hj
      split at hj
      · simpa using hj
      · cases hj
end

/-! ## bytes.Cut, bytes.Clone -/
def numsOf (l : List UInt8) : List Int := l.map fun c => (c.toNat : Int)
theorem bytesOf_nums (l : List UInt8) : Lib.bytesOf (numsOf l) = l := by
  unfold Lib.bytesOf numsOf
  rw [List.map_map]
  conv => rhs; rw [← List.map_id l]
  refine List.map_congr_left fun c _ => ?_
  show UInt8.ofNat ((c.toNat : Int)).toNat = c
  rw [Int.toNat_natCast]; exact UInt8.ofNat_toNat
theorem nums_at {l : List UInt8} {i : Nat} (h : i < l.length) : byteV l[i] = .int .u8 ((numsOf l).getD i 0) := by
  unfold numsOf byteV
  rw [List.getD_eq_getElem?_getD, List.getElem?_map, List.getElem?_eq_getElem h]; rfl
theorem nums_byte (l : List UInt8) : ∀ x ∈ numsOf l, 0 ≤ x ∧ x < 256 := fun x hx => by
  obtain ⟨c, _, rfl⟩ := List.mem_map.1 hx
  have := c.toNat_lt
  omega
theorem bytes_in {W : PW} {A : Option Addr} {c : Nat} {l : List UInt8} (h : RB W (.slice A l.length c) l) : Lib.BytesIn W.w A l.length (numsOf l) := by
  intro hn
  obtain ⟨A', c', e, _, _, h3⟩ := h
  simp only [Value.slice.injEq] at e
  obtain ⟨rfl, _, rfl⟩ := e
  obtain ⟨a, rfl, hr⟩ := h3 hn
  refine Lib.BytesIn.of_cells (fun i hi => ?_) hn
  rw [← nums_at hi]
  exact (hr i (byteV l[i]) (by rw [List.getElem?_map, List.getElem?_eq_getElem hi]; rfl)).2
theorem bcut_x (l sep : List UInt8) (A : Option Addr) (c : Nat) (v2 : Value) (W : PW) (hM : HM W) (hl : l.length ≤ 1000000) (hs : sep.length ≤ 1000) (hA : A = none → c = 0) (h1 : RB W (.slice A l.length c) l) (h2 : RB W v2 sep) :
    CallsX Tryd.prog 56 ⟨[.slice A l.length c, v2]⟩ [] W fun v _ => v = Lib.cutV A l.length c sep.length (Lib.index l sep) := by
  obtain ⟨m, _, hm⟩ := hM
  obtain ⟨A2, c2, rfl, _, _⟩ := h2.form
  have hc : l.length ≤ c := by
    obtain ⟨_, _, e, hcap, _⟩ := h1.form
    simp only [Value.slice.injEq] at e
    obtain ⟨_, _, rfl⟩ := e
    exact hcap
  have := Tryd.bytes_Cut_all A A2 l.length c sep.length c2 (numsOf l) (numsOf sep) m W.w (List.length_map _) (List.length_map _) (nums_byte l) (nums_byte sep) (bytes_in h1) (bytes_in h2) hA hc (by omega) (by omega) hm
  rw [bytesOf_nums, bytesOf_nums] at this
  exact CallsX.of_below ⟨_, Tryd.func56, by kernel_rfl, by kernel_rfl⟩ (this.mono fun e w' ⟨he, q, hw⟩ => ⟨_, he, by subst hw; exact ⟨rfl, rfl, rfl, Nat.le_refl _, fun _ _ => rfl⟩, rfl⟩)
theorem bclone_x (l : List UInt8) (A : Option Addr) (c : Nat) (W : PW) (hl : l.length ≤ 1000000) (h1 : RB W (.slice A l.length c) l) :
    CallsX Tryd.prog 62 ⟨[.slice A l.length c]⟩ [] W fun v _ => ∃ A' n' c', v = .slice A' n' c' := by
  have hcall : Callable Tryd.prog 62 := ⟨_, Tryd.func62, by kernel_rfl, by kernel_rfl⟩
  cases A with
  | none => exact CallsX.of_below hcall ((Tryd.bytes_Clone_nil l.length c W.w).mono fun e w' ⟨he, hw⟩ => ⟨_, he, hw ▸ Below.refl _ _, _, _, _, rfl⟩)
  | some a =>
    have := Tryd.bytes_Clone_at a l.length c (numsOf l) W.w (List.length_map _) (by omega) fun i hi => by
      rw [← nums_at hi]
      obtain ⟨A', c', e, _, _, h3⟩ := h1
      simp only [Value.slice.injEq] at e
      obtain ⟨rfl, _, rfl⟩ := e
      obtain ⟨a', e, hr⟩ := h3 (by omega)
      obtain rfl := Option.some.inj e
      exact (hr i (byteV l[i]) (by rw [List.getElem?_map, List.getElem?_eq_getElem hi]; rfl)).2
    refine CallsX.of_below hcall (this.mono fun e w' ⟨v', he, hown, _, hb⟩ => ⟨v', he, hb, ?_⟩)
    rcases hown.2 with ⟨hv, _⟩ | ⟨g, cap, cur, hv, _⟩
    · exact ⟨_, _, _, hv⟩
    · exact ⟨_, _, _, hv⟩
end Go.Proofs.YtkhgmmejgikgnaaDoor
