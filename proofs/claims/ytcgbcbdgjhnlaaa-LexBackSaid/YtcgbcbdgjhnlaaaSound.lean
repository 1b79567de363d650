/- The conditions of the ghost text are enough: each operation by itself. -/
import Derived.Test.YtcgbcbdgjhnlaaaRes
namespace Go.Proofs.Ytcgbcbdgjhnlaaa
open Go.RowKit

/-! ## Ghost values -/
theorem PV.real_congr {ρ ρ' : Nat → Nat} {n : Nat} (h : ∀ k, k < n → ρ' k = ρ k) : ∀ {c : PV}, c.lt n → c.real ρ' = c.real ρ
  | .v _, _ => rfl
  | .lp k o, hl => by simp only [PV.real, h k hl]
theorem PV.map_congr {ρ ρ' : Nat → Nat} {n : Nat} (h : ∀ k, k < n → ρ' k = ρ k) {cs : List PV} (hl : ∀ c ∈ cs, c.lt n) : cs.map (PV.real ρ') = cs.map (PV.real ρ) :=
  List.map_congr_left fun c hc => PV.real_congr h (hl c hc)
theorem GV.real_congr {ρ ρ' : Nat → Nat} {n : Nat} (h : ∀ k, k < n → ρ' k = ρ k) : ∀ {g : GV}, g.lt n → g.real ρ' = g.real ρ
  | .v _, _ => rfl
  | .lp k o, hl => by simp only [GV.real, h k hl]
  | .ag cs, hl => by simp only [GV.real, PV.map_congr h hl]
  | .clo f caps, hl => by simp only [GV.real, PV.map_congr h hl]
theorem PV.lt_mono {n m : Nat} (h : n ≤ m) : ∀ {c : PV}, c.lt n → c.lt m
  | .v _, _ => trivial
  | .lp _ _, hl => Nat.lt_of_lt_of_le hl h
theorem GV.lt_mono {n m : Nat} (h : n ≤ m) : ∀ {g : GV}, g.lt n → g.lt m
  | .v _, _ => trivial
  | .lp _ _, hl => Nat.lt_of_lt_of_le hl h
  | .ag _, hl => fun c hc => PV.lt_mono h (hl c hc)
  | .clo _ _, hl => fun c hc => PV.lt_mono h (hl c hc)
theorem PV.gv_real (ρ : Nat → Nat) : ∀ c : PV, c.gv.real ρ = c.real ρ
  | .v _ => rfl
  | .lp _ _ => rfl
theorem PV.gv_lt {n : Nat} : ∀ {c : PV}, c.lt n → c.gv.lt n
  | .v _, _ => trivial
  | .lp _ _, h => h
theorem GV.cells_lt {n : Nat} {g : GV} (h : g.lt n) : ∀ c ∈ g.cells, c.lt n := by
  cases g with
  | v x =>
    intro c hc
    cases x <;> simp only [GV.cells, List.mem_map, List.mem_singleton] at hc <;> first | (subst hc; trivial) | (obtain ⟨y, _, rfl⟩ := hc; trivial)
  | lp k o => intro c hc; simp only [GV.cells, List.mem_singleton] at hc; subst hc; exact h
  | ag cs => exact h
  | clo f caps => intro c hc; cases hc
theorem PV.real_v (ρ : Nat → Nat) (l : List Value) : (l.map PV.v).map (PV.real ρ) = l := by
  rw [List.map_map]; exact (List.map_congr_left fun _ _ => rfl).trans (List.map_id l)
theorem GV.cells_real (ρ : Nat → Nat) {g : GV} (h : g.isClo = false) : (g.real ρ).cells.toList = g.cells.map (PV.real ρ) := by
  cases g with
  | v x => cases x <;> first | (simp [GV.real, GV.cells, Value.cells, PV.real]; done) | (simp only [GV.real, GV.cells, Value.cells, PV.real_v])
  | lp k o => rfl
  | ag cs => rfl
  | clo f caps => cases h
theorem plain_real (ρ : Nat → Nat) : ∀ {cs : List PV} {vs : List Value}, plainCells cs = some vs → cs.map (PV.real ρ) = vs
  | [], vs, h => by simp only [plainCells, Option.some.injEq] at h; subst h; rfl
  | .v x :: r, vs, h => by
    simp only [plainCells] at h
    split at h
    · rename_i l hl
      simp only [Option.some.injEq] at h
      subst h
      simp only [List.map_cons, PV.real, plain_real ρ hl]
    · cases h
  | .lp _ _ :: _, _, h => by cases h
theorem asPV_real (ρ : Nat → Nat) {g : GV} {c : PV} (h : asPV g = some c) : c.real ρ = g.real ρ ∧ ∀ n, g.lt n → c.lt n := by
  cases g <;> simp only [asPV, Option.some.injEq, reduceCtorEq] at h <;> subst h <;> exact ⟨rfl, fun _ h => h⟩
theorem asPVs_real (ρ : Nat → Nat) : ∀ {gs : List GV} {cs : List PV}, asPVs gs = some cs → cs.map (PV.real ρ) = gs.map (GV.real ρ) ∧ ∀ n, (∀ g ∈ gs, g.lt n) → ∀ c ∈ cs, c.lt n
  | [], cs, h => by simp only [asPVs, Option.some.injEq] at h; subst h; exact ⟨rfl, fun _ _ c hc => by cases hc⟩
  | g :: r, cs, h => by
    simp only [asPVs] at h
    split at h
    · rename_i c l hc hl
      simp only [Option.some.injEq] at h
      subst h
      obtain ⟨h1, h2⟩ := asPV_real ρ hc
      obtain ⟨h3, h4⟩ := asPVs_real ρ hl
      refine ⟨by simp only [List.map_cons, h1, h3], fun n hn c hc => ?_⟩
      rcases List.mem_cons.1 hc with rfl | hc
      · exact h2 n (hn g (List.mem_cons_self ..))
      · exact h4 n (fun g hg => hn g (List.mem_cons_of_mem _ hg)) c hc
    · cases h

/-! ## Frames -/
structure Rel (N : Nat) (ρ : Nat → Nat) (f : Fr) (n : Nat) (a : Act) : Prop where
  defers : a.defers = []
  size : a.tmps.size = N
  val : ∀ i, a.tmps.getD i undef = (f i).real ρ
  lt : ∀ i, (f i).lt n

theorem upd_same (f : Fr) (d : Nat) (g : GV) : upd f d g d = g := by simp [upd]
theorem upd_other (f : Fr) {d i : Nat} (g : GV) (h : i ≠ d) : upd f d g i = f i := by
  have : Nat.beq i d = false := by
    cases hb : Nat.beq i d with
    | false => rfl
    | true => exact absurd (Nat.eq_of_beq_eq_true hb) h
  simp [upd, this]

theorem Rel.eval {N n : Nat} {ρ : Nat → Nat} {f : Fr} {a : Act} (h : Rel N ρ f n a) (x : Operand) : a.eval x = (evG f x).real ρ := by
  cases x with
  | tmp t => exact h.val t
  | const v => rfl
  | global g => rfl
  | func k => rfl
theorem Rel.evG_lt {N n : Nat} {ρ : Nat → Nat} {f : Fr} {a : Act} (h : Rel N ρ f n a) (x : Operand) : (evG f x).lt n := by
  cases x with
  | tmp t => exact h.lt t
  | const v => trivial
  | global g => trivial
  | func k => trivial
theorem evG_lt {n : Nat} {f : Fr} (h : ∀ i, (f i).lt n) (x : Operand) : (evG f x).lt n := by
  cases x with
  | tmp t => exact h t
  | const v => trivial
  | global g => trivial
  | func k => trivial
theorem Rel.put {N n : Nat} {ρ : Nat → Nat} {f : Fr} {a : Act} (h : Rel N ρ f n a) {d : Option Nat} (hd : ∀ x, d = some x → x < N) {g : GV} (hg : g.lt n) : Rel N ρ (putF f d g) n (a.put d (g.real ρ)) := by
  cases d with
  | none => exact h
  | some d =>
    have hdN := hd d rfl
    refine ⟨h.defers, by simp [Act.put, h.size], fun i => ?_, fun i => ?_⟩
    · by_cases hi : i = d
      · subst hi
        have : i < a.tmps.size := by rw [h.size]; exact hdN
        simp [putF, upd_same, Act.put, this]
      · have := h.val i
        simp only [putF, upd_other f g hi]
        rw [← this]
        simp [Act.put, Array.getElem?_setIfInBounds_ne (Ne.symm hi)]
    · by_cases hi : i = d
      · subst hi; simp only [putF, upd_same]; exact hg
      · simp only [putF, upd_other f g hi]; exact h.lt i
theorem Rel.mono {N n n' : Nat} {ρ ρ' : Nat → Nat} {f : Fr} {a : Act} (h : Rel N ρ f n a) (hn : n ≤ n') (hρ : ∀ k, k < n → ρ' k = ρ k) : Rel N ρ' f n' a :=
  ⟨h.defers, h.size, fun i => (h.val i).trans (GV.real_congr hρ (h.lt i)).symm, fun i => GV.lt_mono hn (h.lt i)⟩
/-- A slot that is known to hold a Bool. -/
theorem Rel.lit {N n : Nat} {ρ : Nat → Nat} {f : Fr} {a : Act} (h : Rel N ρ f n a) {s : Nat} {b : Bool} (hs : f s = .v (.bool b)) : Rel N ρ (upd f s (.v (.bool b))) n a := by
  have : upd f s (.v (.bool b)) = f := by
    funext i
    by_cases hi : i = s
    · subst hi; rw [upd_same, hs]
    · rw [upd_other f _ hi]
  rw [this]; exact h

/-! ## Worlds -/
theorem PW.Le.refl (W : PW) : W.Le W := ⟨Nat.le_refl _, fun _ h => h, fun _ _ => rfl⟩
theorem PW.Le.trans {U V W : PW} (h : U.Le V) (k : V.Le W) : U.Le W :=
  ⟨Nat.le_trans h.size k.size, fun b hb => k.al b (h.al b hb), fun b hb => (k.bl b (h.al b hb)).trans (h.bl b hb)⟩
theorem Keep.refl (ex : List Nat) (w : World) : Keep ex w w := ⟨rfl, rfl, rfl, Nat.le_refl _, fun _ _ _ => rfl⟩
theorem Keep.trans {ex : List Nat} {a b c : World} (h : Keep ex a b) (k : Keep ex b c) : Keep ex a c :=
  ⟨k.os.trans h.os, k.tape.trans h.tape, k.output.trans h.output, Nat.le_trans h.size k.size, fun i hi he => (k.block i (Nat.lt_of_lt_of_le hi h.size) he).trans (h.block i hi he)⟩
theorem cell_of_heap {w w' : World} {a : Addr} (h : w'.heap[a.block]? = w.heap[a.block]?) : w'.cell? a = w.cell? a := by simp [World.cell?, h]
theorem Rd.mono {W W' : PW} {a : Addr} {v : Value} (h : Rd W a v) (l : W.Le W') : Rd W' a v :=
  ⟨l.al _ h.1, (cell_of_heap (l.bl _ h.1)).trans h.2⟩
theorem Rds.mono {W W' : PW} {a : Addr} {cs : List Value} (h : Rds W a cs) (l : W.Le W') : Rds W' a cs := fun j v hj => (h j v hj).mono l

section
variable {P : Program} {B : Base} {ρ : Nat → Nat} {S : GS} {w : World}

theorem St.rd (h : St B ρ S w) {W : PW} (l : W.Le S.W) {a : Addr} {v : Value} (hr : Rd W a v) : w.cell? a = some v :=
  (cell_of_heap (h.vblock _ (l.al _ hr.1))).trans (hr.mono l).2
theorem block_add (a : Addr) (n : Nat) : (a.add n).block = a.block := by unfold Addr.add; split <;> rfl
theorem add_lit (b o n : Nat) : (⟨b, o, none⟩ : Addr).add n = ⟨b, o + n, none⟩ := by unfold Addr.add; split <;> simp_all
theorem St.cell (h : St B ρ S w) {k o : Nat} {cs : List PV} {c : PV} (hk : S.σ[k]? = some cs) (hc : cs[o]? = some c) : w.cell? ⟨ρ k, o, none⟩ = some (c.real ρ) := by
  obtain ⟨e, he⟩ := h.loc k cs hk
  simp [World.cell?, he, hc]
theorem run_loadCells_list (P : Program) (w : World) (a : Addr) (cs : List Value) (h : ∀ j v, cs[j]? = some v → w.cell? (a.add j) = some v) : (loadCells a cs.length).run P w = .ok ⟨cs⟩ w := by
  have key : ∀ (n i : Nat) (acc : Array Value), i + n = cs.length → (loadCellsFrom a i n acc).run P w = .ok (acc ++ (⟨cs.drop i⟩ : Array Value)) w := by
    intro n
    induction n with
    | zero =>
      intro i acc hi
      have : cs.drop i = [] := List.drop_eq_nil_of_le (by omega)
      simp [loadCellsFrom, this]
    | succ n ih =>
      intro i acc hi
      have hlt : i < cs.length := by omega
      have hc := h i cs[i] (List.getElem?_eq_getElem hlt)
      simp only [loadCellsFrom, Sem.run_bind, run_load, hc, Result.andThen_ok]
      rw [ih (i + 1) _ (by omega), List.drop_eq_getElem_cons hlt]
      simp
  have := key cs.length 0 #[] (by omega)
  simpa [loadCells] using this
theorem own_cell {w : World} {e : TypeId} {sz n q c j : Nat} {b : Addr} {cs : List Value} {v : Value} (h : w.ownsRow 0 e sz (.slice (some b) q c) n cs) (hj : cs[j]? = some v) : w.cell? (b.add j) = some v := by
  rcases h.2 with ⟨e1, _⟩ | ⟨g, cap, cur, e1, _, hg, h1, h2, h3, h4⟩
  · cases e1
  · simp only [Value.slice.injEq, Option.some.injEq] at e1
    obtain ⟨rfl, _, _⟩ := e1
    rw [add_lit, Nat.zero_add]
    rw [← h4, List.getElem?_take] at hj
    split at hj
    · simp [World.cell?, hg]
      rw [← Array.getElem?_toList]; exact hj
    · cases hj
theorem St.rdO {S' : GS} (h : St B ρ S' w) (l : S.W.Le S'.W) (hO : ∀ (i : Nat) (o : Own), S.O[i]? = some o → S'.O[i]? = some o) {a : Addr} {v : Value} (hr : RdO S a v) : w.cell? a = some v := by
  rcases hr with hr | ⟨i, o, b, q, c, j, h1, h2, rfl, h4⟩
  · exact h.rd l hr
  · have := (h.own i o (hO i o h1)).1
    rw [h2] at this
    exact own_cell this h4
theorem Held.refl (l : List Nat) (S : GS) : Held l S S := ⟨fun _ _ => rfl, fun _ _ _ h => h⟩
theorem Held.trans {l : List Nat} {S S' S'' : GS} (h : Held l S S') (k : Held l S' S'') : Held l S S'' := ⟨fun j hj => (k.var j hj).trans (h.var j hj), fun h0 i o hi => k.own h0 i o (h.own h0 i o hi)⟩
theorem Rd.o {v : Value} {a : Addr} (h : Rd S.W a v) : RdO S a v := .inl h
theorem Rds.o {a : Addr} {cs : List Value} (h : Rds S.W a cs) : RdsO S a cs := fun j v hj => .inl (h j v hj)
theorem not_mem_of {l : List Nat} {k : Nat} (h : l.contains k = false) : k ∉ l := fun hk => by rw [List.contains_iff_mem.2 hk] at h; cases h
theorem St.mono_le (h : St B ρ S w) : S.W.w.heap.size ≤ w.heap.size := h.vsize
end
end Go.Proofs.Ytcgbcbdgjhnlaaa
