/- The conditions are enough: operations that make or write memory, calls. -/
import Derived.Test.YtcgbcbdgjhnlaaaAll
import Derived.Maps.AppendAt
import Derived.Laws.MakeOwn
namespace Go.Proofs.Ytcgbcbdgjhnlaaa
open Go.RowKit

/-- What an operation may come to. -/
def OpPost (P : Program) (r : Result Next) (R : Value → World → Prop) : Prop :=
  match r with
  | .ok (.value v) w' => R v w'
  | .ok .skip w' => R undef w'
  | .ok (.enter f args) w' => Calls P f args w' fun e w'' => ∃ v, e = .returned v ∧ R v w''
  | _ => False

def OpR (B : Base) (prot : List Nat) (S : GS) (K : GV → GS → Prop) (ρ : Nat → Nat) (v : Value) (w' : World) : Prop :=
  ∃ (g : GV) (S' : GS) (ρ' : Nat → Nat), v = g.real ρ' ∧ (∀ k, k < S.σ.length → ρ' k = ρ k) ∧ Grow prot S S' ∧ g.lt S'.σ.length ∧ St B ρ' S' w' ∧ K g S'

section
variable {P : Program} {B : Base} {f : Fr} {prot : List Nat} {S : GS} {K : GV → GS → Prop} {ρ : Nat → Nat} {w : World}

theorem Grow.refl (prot : List Nat) (S : GS) : Grow prot S S := ⟨Nat.le_refl _, PW.Le.refl _, Held.refl _ _⟩

theorem heap_lt {w : World} {g : Nat} {o : Obj} (h : w.heap[g]? = some o) : g < w.heap.size := (Array.getElem?_eq_some_iff.1 h).1

theorem St.loc_lt (h : St B ρ S w) {k : Nat} (hk : k < S.σ.length) : ρ k < w.heap.size := by
  obtain ⟨e, he⟩ := h.loc k S.σ[k] (List.getElem?_eq_getElem hk)
  exact heap_lt he
theorem St.own_lt (h : St B ρ S w) {i : Nat} {o : Own} (hi : S.O[i]? = some o) {b : Nat} (hb : o.v.ownBlock = some b) : b < w.heap.size := ((h.own i o hi).1.lt b hb).2
theorem St.A_lt (h : St B ρ S w) {b : Nat} (hb : S.W.A b) : b < w.heap.size := Nat.lt_of_lt_of_le (S.W.lt b hb) h.vsize

/-! ### A variable of the call's own is written -/
theorem St.set (h : St B ρ S w) {k : Nat} {cs cs' : List PV} (hk : S.σ[k]? = some cs) (hl : ∀ c ∈ cs', c.lt S.σ.length) :
    St B ρ { S with σ := S.σ.set k cs' } (w.setRow (ρ k) ⟨cs'.map (PV.real ρ)⟩) := by
  have hklt : k < S.σ.length := (List.getElem?_eq_some_iff.1 hk).1
  obtain ⟨e, he⟩ := h.loc k cs hk
  have hlt := heap_lt he
  have hlA := h.locA k hklt
  refine ⟨⟨?_, ?_, ?_, ?_, ?_⟩, ?_, ?_, h.mono, h.back, ?_, ?_, ?_, ?_, ?_, ?_, h.sep⟩
  · exact h.keep.os
  · exact h.keep.tape
  · exact h.keep.output
  · rw [size_setRow]; exact h.keep.size
  · intro b hb hex
    have hne : b ≠ ρ k := by
      rintro rfl
      rcases hlA.2 with h1 | h1
      · exact hex h1
      · omega
    rw [setRow_other w _ _ _ hne]
    exact h.keep.block b hb hex
  · rw [size_setRow]; exact h.vsize
  · intro b hb
    have hne : b ≠ ρ k := by rintro rfl; exact hlA.1 hb
    rw [setRow_other w _ _ _ hne]
    exact h.vblock b hb
  · intro j cj hj
    by_cases hjk : j = k
    · subst hjk
      rw [List.getElem?_set_self hklt] at hj
      simp only [Option.some.injEq] at hj
      subst hj
      exact ⟨e, setRow_heap w _ _ _ e (0, 0) he⟩
    · rw [List.getElem?_set_ne (Ne.symm hjk)] at hj
      obtain ⟨e', he'⟩ := h.loc j cj hj
      have hjlt : j < S.σ.length := (List.getElem?_eq_some_iff.1 hj).1
      exact ⟨e', by rw [setRow_other w _ _ _ (fun e => hjk (h.inj j k hjlt hklt e))]; exact he'⟩
  · intro j hj; rw [List.length_set] at hj; exact h.locA j hj
  · intro i j hi hj; rw [List.length_set] at hi hj; exact h.inj i j hi hj
  · intro j cj hj c hc
    rw [List.length_set]
    by_cases hjk : j = k
    · subst hjk
      rw [List.getElem?_set_self hklt] at hj
      simp only [Option.some.injEq] at hj
      subst hj
      exact hl c hc
    · rw [List.getElem?_set_ne (Ne.symm hjk)] at hj
      exact h.cells j cj hj c hc
  · intro j g hj
    rw [List.length_set]
    exact h.rc j g hj
  · intro i o hi
    obtain ⟨h1, h2⟩ := h.own i o hi
    refine ⟨?_, fun b hb => ⟨(h2 b hb).1, (h2 b hb).2.1, fun j hj => (h2 b hb).2.2 j (by rwa [List.length_set] at hj)⟩⟩
    refine h1.kept (w' := w.setRow (ρ k) _) (row := some (ρ k)) ⟨rfl, rfl, rfl, by rw [size_setRow]; exact Nat.le_refl _, fun j hj hne => setRow_other w _ _ _ (fun e => hne (by rw [e]))⟩ ?_
    refine .inr fun e => ?_
    exact (h2 (ρ k) e).2.2 k hklt rfl

/-! ### A new variable of the call's own -/
theorem St.newLoc (h : St B ρ S w) {cs : List PV} (hl : ∀ c ∈ cs, c.lt S.σ.length) (e : TypeId) :
    St B (fun k => if k = S.σ.length then w.heap.size else ρ k) { S with σ := S.σ ++ [cs] } (w.alloc (.cells ⟨cs.map (PV.real ρ)⟩ e)) := by
  have hcg : ∀ (j : Nat) (cj : List PV), S.σ[j]? = some cj → cj.map (PV.real fun k => if k = S.σ.length then w.heap.size else ρ k) = cj.map (PV.real ρ) :=
    fun j cj hj => PV.map_congr (n := S.σ.length) (fun k hk => by simp only [if_neg (show k ≠ S.σ.length by omega)]) (h.cells j cj hj)
  have hcs : cs.map (PV.real fun k => if k = S.σ.length then w.heap.size else ρ k) = cs.map (PV.real ρ) :=
    PV.map_congr (n := S.σ.length) (fun k hk => by simp only [if_neg (show k ≠ S.σ.length by omega)]) hl
  have hone : ∀ k, k < S.σ.length → (if k = S.σ.length then w.heap.size else ρ k) = ρ k := fun k hk => if_neg (by omega)
  have hlast : (if S.σ.length = S.σ.length then w.heap.size else ρ S.σ.length) = w.heap.size := if_pos rfl
  have hBs := h.keep.size
  refine ⟨⟨h.keep.os, h.keep.tape, h.keep.output, by simp; omega, ?_⟩, by simp; have := h.vsize; omega, ?_, h.mono, h.back, ?_, ?_, ?_, ?_, ?_, ?_, h.sep⟩
  · intro b hb hex
    rw [Below.heap_alloc w _ b (by omega)]
    exact h.keep.block b hb hex
  · intro b hb
    rw [Below.heap_alloc w _ b (h.A_lt hb)]
    exact h.vblock b hb
  · intro j cj hj
    rcases Nat.lt_trichotomy j S.σ.length with hlt | heq | hgt
    · rw [List.getElem?_append_left hlt] at hj
      obtain ⟨e', he'⟩ := h.loc j cj hj
      refine ⟨e', ?_⟩
      rw [hcg j cj hj, hone j hlt, Below.heap_alloc w _ _ (heap_lt he')]
      exact he'
    · subst heq
      rw [List.getElem?_append_right (Nat.le_refl _), Nat.sub_self] at hj
      simp only [List.getElem?_cons_zero, Option.some.injEq] at hj
      subst hj
      refine ⟨e, ?_⟩
      rw [hcs, hlast]
      exact heap_alloc_new w _
    · rw [List.getElem?_eq_none (by simp; omega)] at hj; cases hj
  · intro j hj
    simp only [List.length_append, List.length_singleton] at hj
    rcases Nat.lt_or_ge j S.σ.length with hlt | hge
    · rw [hone j hlt]; exact h.locA j hlt
    · obtain rfl : j = S.σ.length := by omega
      rw [hlast]
      refine ⟨fun hA => ?_, .inr hBs⟩
      have := h.A_lt hA; omega
  · intro i j hi hj hij
    simp only [List.length_append, List.length_singleton] at hi hj
    rcases Nat.lt_or_ge i S.σ.length with hi' | hi' <;> rcases Nat.lt_or_ge j S.σ.length with hj' | hj'
    · rw [hone i hi', hone j hj'] at hij; exact h.inj i j hi' hj' hij
    · obtain rfl : j = S.σ.length := by omega
      rw [hone i hi', hlast] at hij
      have := h.loc_lt hi'; omega
    · obtain rfl : i = S.σ.length := by omega
      rw [hone j hj', hlast] at hij
      have := h.loc_lt hj'; omega
    · omega
  · intro j cj hj c hc
    simp only [List.length_append, List.length_singleton]
    rcases Nat.lt_trichotomy j S.σ.length with hlt | heq | hgt
    · rw [List.getElem?_append_left hlt] at hj
      exact PV.lt_mono (Nat.le_succ _) (h.cells j cj hj c hc)
    · subst heq
      rw [List.getElem?_append_right (Nat.le_refl _), Nat.sub_self] at hj
      simp only [List.getElem?_cons_zero, Option.some.injEq] at hj
      subst hj
      exact PV.lt_mono (Nat.le_succ _) (hl c hc)
    · rw [List.getElem?_eq_none (by simp; omega)] at hj; cases hj
  · intro j g hj
    obtain ⟨h1, h2⟩ := h.rc j g hj
    simp only [List.length_append, List.length_singleton]
    exact ⟨by omega, by rw [hone j h1]; exact h2⟩
  · intro i o hi
    obtain ⟨h1, h2⟩ := h.own i o hi
    refine ⟨h1.alloc _, fun b hb => ⟨(h2 b hb).1, (h2 b hb).2.1, fun j hj => ?_⟩⟩
    simp only [List.length_append, List.length_singleton] at hj
    rcases Nat.lt_or_ge j S.σ.length with hlt | hge
    · rw [hone j hlt]; exact (h2 b hb).2.2 j hlt
    · obtain rfl : j = S.σ.length := by omega
      rw [hlast]
      have := h.own_lt hi hb; omega
theorem newLoc_agree {n m : Nat} : ∀ k, k < n → (if k = n then m else ρ k) = ρ k := fun k hk => if_neg (by omega)
theorem newLoc_grow (hp : ∀ k, k + 1 ∈ prot → k < S.σ.length) (cs : List PV) : Grow prot S { S with σ := S.σ ++ [cs] } :=
  ⟨by simp, PW.Le.refl _, ⟨fun k hk => List.getElem?_append_left (hp k hk), fun _ _ _ h => h⟩⟩

/-! ### A new block that is never written again -/
def PW.grown (W : PW) (w : World) (hs : W.w.heap.size ≤ w.heap.size) (o : Obj) : PW :=
  ⟨w.alloc o, fun b => W.A b ∨ b = w.heap.size, fun b hb => by
    rcases hb with hb | rfl
    · have := W.lt b hb; simp; omega
    · simp⟩
theorem St.newBlock (h : St B ρ S w) (o : Obj) : S.W.Le (S.W.grown w h.vsize o) ∧ St B ρ { S with W := S.W.grown w h.vsize o } (w.alloc o) := by
  have hBs := h.keep.size
  have hle : S.W.Le (S.W.grown w h.vsize o) := ⟨by simp [PW.grown]; have := h.vsize; omega, fun b hb => .inl hb, fun b hb => by
    show (w.alloc o).heap[b]? = _
    rw [Below.heap_alloc w _ b (h.A_lt hb)]; exact h.vblock b hb⟩
  refine ⟨hle, ⟨h.keep.os, h.keep.tape, h.keep.output, by simp; omega, ?_⟩, Nat.le_refl _, fun _ _ => rfl, h.mono.trans hle, ?_, ?_, ?_, h.inj, h.cells, h.rc, ?_, h.sep⟩
  · intro b hb hex
    rw [Below.heap_alloc w _ b (by omega)]
    exact h.keep.block b hb hex
  · intro b hb
    rcases hb with hb | rfl
    · exact h.back b hb
    · exact .inr hBs
  · intro j cj hj
    obtain ⟨e', he'⟩ := h.loc j cj hj
    exact ⟨e', by rw [Below.heap_alloc w _ _ (heap_lt he')]; exact he'⟩
  · intro j hj
    refine ⟨fun hA => ?_, (h.locA j hj).2⟩
    rcases hA with hA | hA
    · exact (h.locA j hj).1 hA
    · have := h.loc_lt hj; omega
  · intro i o' hi
    obtain ⟨h1, h2⟩ := h.own i o' hi
    refine ⟨h1.alloc _, fun b hb => ⟨fun hA => ?_, (h2 b hb).2⟩⟩
    rcases hA with hA | hA
    · exact (h2 b hb).1 hA
    · have := h.own_lt hi hb; omega

/-! ### A slice that is owned grows, moves -/
theorem ownBlock_inj {v : Value} {b c : Nat} (h : v.ownBlock = some b) (k : v.ownBlock = some c) : b = c := by rw [h] at k; exact Option.some.inj k

theorem St.setOwn (h : St B ρ S w) {i : Nat} {o o' : Own} {w' : World} (hi : S.O[i]? = some o) (hg : w.grownBy w' o.v.ownBlock) (ho : w'.ownsRow 0 o'.e o'.sz o'.v o'.n o'.cs)
    (hb : o'.v.ownBlock = o.v.ownBlock ∨ o'.v.ownBlock = some w.heap.size) : St B ρ { S with O := S.O.set i o' } w' := by
  have hilt : i < S.O.length := (List.getElem?_eq_some_iff.1 hi).1
  obtain ⟨h1, h2⟩ := h.own i o hi
  have hBs := h.keep.size
  have hnb : ∀ b, b < w.heap.size → (∀ g, o.v.ownBlock = some g → b ≠ g) → w'.heap[b]? = w.heap[b]? := fun b hb hne => hg.block b hb (fun e => hne b e.symm rfl)
  refine ⟨⟨hg.os.trans h.keep.os, hg.tape.trans h.keep.tape, hg.output.trans h.keep.output, Nat.le_trans hBs hg.size, ?_⟩, Nat.le_trans h.vsize hg.size, ?_, h.mono, h.back, ?_, h.locA, h.inj, h.cells, h.rc, ?_, ?_⟩
  · intro b hb' hex
    rw [hnb b (by omega) (fun g hgb e => by subst e; rcases (h2 b hgb).2.1 with h3 | h3 <;> first | exact hex h3 | omega)]
    exact h.keep.block b hb' hex
  · intro b hA
    rw [hnb b (h.A_lt hA) (fun g hgb e => by subst e; exact (h2 b hgb).1 hA)]
    exact h.vblock b hA
  · intro j cj hj
    obtain ⟨e', he'⟩ := h.loc j cj hj
    have hjlt : j < S.σ.length := (List.getElem?_eq_some_iff.1 hj).1
    exact ⟨e', by rw [hnb _ (heap_lt he') (fun g hgb e => (h2 g hgb).2.2 j hjlt e)]; exact he'⟩
  · intro j oj hj
    by_cases hji : j = i
    · subst hji
      rw [List.getElem?_set_self hilt] at hj
      simp only [Option.some.injEq] at hj
      subst hj
      refine ⟨ho, fun b hbb => ?_⟩
      rcases hb with hb | hb
      · rw [hb] at hbb; exact h2 b hbb
      · rw [hb] at hbb
        simp only [Option.some.injEq] at hbb
        subst hbb
        refine ⟨fun hA => by have := h.A_lt hA; omega, .inr hBs, fun k hk => by have := h.loc_lt hk; omega⟩
    · rw [List.getElem?_set_ne (Ne.symm hji)] at hj
      obtain ⟨h3, h4⟩ := h.own j oj hj
      refine ⟨h3.kept hg ?_, h4⟩
      by_cases hn : oj.v.ownBlock = none
      · exact .inl hn
      · obtain ⟨b, hbj⟩ := Option.ne_none_iff_exists'.1 hn
        refine .inr fun e => hji ?_
        exact h.sep j i oj o b hj hi hbj (by rw [← e]; exact hbj)
  · intro j k oj ok b hj hk hbj hbk
    have part : ∀ j oj, (S.O.set i o')[j]? = some oj → oj.v.ownBlock = some b → (j = i ∧ oj = o') ∨ (j ≠ i ∧ S.O[j]? = some oj) := by
      intro j oj hj _
      by_cases hji : j = i
      · subst hji
        rw [List.getElem?_set_self hilt] at hj
        exact .inl ⟨rfl, (Option.some.inj hj).symm⟩
      · rw [List.getElem?_set_ne (Ne.symm hji)] at hj
        exact .inr ⟨hji, hj⟩
    have fresh : ∀ j oj, j ≠ i → S.O[j]? = some oj → oj.v.ownBlock = some b → o'.v.ownBlock = some b → False := by
      intro j oj hji hj hbj hb'
      rcases hb with hb | hb
      · rw [hb] at hb'
        exact hji (h.sep j i oj o b hj hi hbj hb')
      · rw [hb] at hb'
        have := h.own_lt hj hbj
        simp only [Option.some.injEq] at hb'
        omega
    rcases part j oj hj hbj with ⟨rfl, rfl⟩ | ⟨hji, hj'⟩ <;> rcases part k ok hk hbk with ⟨rfl, rfl⟩ | ⟨hki, hk'⟩
    · rfl
    · exact (fresh k ok hki hk' hbk hbj).elim
    · exact (fresh j oj hji hj' hbj hbk).elim
    · exact h.sep j k oj ok b hj' hk' hbj hbk

theorem St.newOwn (h : St B ρ S w) {o : Own} {ob : Obj} (ho : (w.alloc ob).ownsRow 0 o.e o.sz o.v o.n o.cs) (hb : o.v.ownBlock = some w.heap.size) : St B ρ { S with O := S.O ++ [o] } (w.alloc ob) := by
  have hBs := h.keep.size
  have hg := World.grownBy_alloc w ob none
  refine ⟨⟨h.keep.os, h.keep.tape, h.keep.output, by simp; omega, ?_⟩, by simp; have := h.vsize; omega, ?_, h.mono, h.back, ?_, h.locA, h.inj, h.cells, h.rc, ?_, ?_⟩
  · intro b hb' hex
    rw [Below.heap_alloc w _ b (by omega)]
    exact h.keep.block b hb' hex
  · intro b hA
    rw [Below.heap_alloc w _ b (h.A_lt hA)]
    exact h.vblock b hA
  · intro j cj hj
    obtain ⟨e', he'⟩ := h.loc j cj hj
    exact ⟨e', by rw [Below.heap_alloc w _ _ (heap_lt he')]; exact he'⟩
  · intro j oj hj
    rcases Nat.lt_trichotomy j S.O.length with hlt | heq | hgt
    · rw [List.getElem?_append_left hlt] at hj
      obtain ⟨h3, h4⟩ := h.own j oj hj
      exact ⟨h3.alloc _, h4⟩
    · subst heq
      rw [List.getElem?_append_right (Nat.le_refl _), Nat.sub_self] at hj
      simp only [List.getElem?_cons_zero, Option.some.injEq] at hj
      subst hj
      refine ⟨ho, fun b hbb => ?_⟩
      rw [hb] at hbb
      simp only [Option.some.injEq] at hbb
      subst hbb
      exact ⟨fun hA => by have := h.A_lt hA; omega, .inr hBs, fun k hk => by have := h.loc_lt hk; omega⟩
    · rw [List.getElem?_eq_none (by simp; omega)] at hj; cases hj
  · intro j k oj ok b hj hk hbj hbk
    have part : ∀ j oj, (S.O ++ [o])[j]? = some oj → oj.v.ownBlock = some b → (j = S.O.length ∧ b = w.heap.size) ∨ (S.O[j]? = some oj ∧ b < w.heap.size) := by
      intro j oj hj hbj
      rcases Nat.lt_trichotomy j S.O.length with hlt | heq | hgt
      · rw [List.getElem?_append_left hlt] at hj
        exact .inr ⟨hj, h.own_lt hj hbj⟩
      · subst heq
        rw [List.getElem?_append_right (Nat.le_refl _), Nat.sub_self] at hj
        simp only [List.getElem?_cons_zero, Option.some.injEq] at hj
        subst hj
        rw [hb] at hbj
        simp only [Option.some.injEq] at hbj
        exact .inl ⟨rfl, hbj.symm⟩
      · rw [List.getElem?_eq_none (by simp; omega)] at hj; cases hj
    rcases part j oj hj hbj with ⟨h1, h2⟩ | ⟨h1, h2⟩ <;> rcases part k ok hk hbk with ⟨h3, h4⟩ | ⟨h3, h4⟩
    · omega
    · omega
    · omega
    · exact h.sep j k oj ok b h1 h3 hbj hbk

theorem St.drew (h : St B ρ S w) : St B ρ S w.drew := ⟨⟨h.keep.os, h.keep.tape, h.keep.output, h.keep.size, h.keep.block⟩, h.vsize, h.vblock, h.mono, h.back, h.loc, h.locA, h.inj, h.cells, h.rc, fun i o hi => ⟨(h.own i o hi).1, (h.own i o hi).2⟩, h.sep⟩

end
end Go.Proofs.Ytcgbcbdgjhnlaaa
