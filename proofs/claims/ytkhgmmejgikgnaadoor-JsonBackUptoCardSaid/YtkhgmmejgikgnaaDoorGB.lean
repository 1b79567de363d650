/- Texts of this proof, one behind the other: CutB Bld BldW. No statement of the seat is proved here. -/
import Derived.Test.YtkhgmmejgikgnaaDoorPB
import Derived.Test.YtkhgmmejgikgnaaDoorShelfB
import Derived.Lib.AppendStr
import Derived.Lib.UnsafeStr
import Derived.Test.YtkhgmmejgikgnaaDoorGC

/- A block's condition is its body's. -/
namespace Go.Proofs.YtkhgmmejgikgnaaDoor
open Go.RowKit

section
variable {P : Program} {B : Base}
def blkK (id : Nat) (K : Ex → Fr → GS → Prop) : Ex → Fr → GS → Prop
  | .normal, f, S => K .normal f S
  | .exit i, f, S => bif Nat.beq i id then K .normal f S else K (.exit i) f S
  | .ret, f, S => K .ret f S
theorem vc_block {f : Fr} {S : GS} {K : Ex → Fr → GS → Prop} {a : MC} {id : Nat} (h : vc P B f S (blkK id K) a) : vc P B f S K (.block id a) := by
  refine vc_mono (c := a) (fun e f' S' hk => ?_) h
  cases e with
  | normal => exact hk
  | exit i => exact hk
  | ret => exact hk
end
end Go.Proofs.YtkhgmmejgikgnaaDoor

/- strings.Builder: a variable of that type is held as a slice of two cells that is owned (its block's type is known so), its buffer as another; functions whose code is walked where they are called. -/
namespace Go.Proofs.YtkhgmmejgikgnaaDoor
open Go.RowKit

/-! ## A call whose code is walked in its caller's place -/
def inlK (rs : List RV) (K : GV → GS → Prop) : Ex → Fr → GS → Prop
  | .exit _, _, _ => False
  | _, f, S => match resG f S rs with | some l => ∃ v, plainRet l = some v ∧ K (.v v) S | none => False

section
variable {P : Program} {B : Base}

theorem call_inl (hmix : P.follows .mixedOrders = true) {fid : FuncId} {fn : Func} {mf : MF} (hf : P.funcs[fid]? = some fn) (hm : resF P fn = some mf) (hname : (fn.name == "runtime.NumGoroutine") = false)
    {args : List GV} {vs : List Value} (hp : plainGs args = some vs) (hlen : Nat.ble vs.length mf.N = true) {S : GS} {K : GV → GS → Prop}
    (hvc : ∀ rc : List Nat, vc P ⟨B.W, B.ex, rc⟩ (initV vs) S (inlK mf.rs K) mf.code) : CallVC P B fid args [] S K := by
  unfold resF at hm
  split at hm
  · rename_i c hb
    split at hm
    · rename_i mc rs hc hr
      simp only [Option.some.injEq] at hm
      subst hm
      refine ⟨⟨fn, hf, by rw [hb]; (first | done | rfl), hname⟩, fun ρ w hst => ?_⟩
      rw [plainGs_real hp ρ]
      have hrc : ∀ (k g : Nat), ((List.range S.σ.length).map ρ)[k]? = some g → k < S.σ.length ∧ ρ k = g := by
        intro k g hk
        have hl := (List.getElem?_eq_some_iff.1 hk).1
        simp only [List.length_map, List.length_range] at hl
        rw [List.getElem?_map, List.getElem?_range hl] at hk
        exact ⟨hl, Option.some.inj hk⟩
      have hst' : St ⟨B.W, B.ex, (List.range S.σ.length).map ρ⟩ ρ S w := ⟨hst.keep, hst.vsize, hst.vblock, hst.mono, hst.back, hst.loc, hst.locA, hst.inj, hst.cells, hrc, hst.own, hst.sep⟩
      refine calls_of_wp hf hb ?_
      have hrel : Rel fn.ntmps ρ (initV vs) S.σ.length { tmps := (⟨vs⟩ : Array Value) ++ Array.replicate (fn.ntmps - (⟨vs⟩ : Array Value).size) undef, defers := [] } := by
        have hlen' : vs.length ≤ fn.ntmps := ble_le hlen
        refine ⟨rfl, by simp; omega, fun i => ?_, fun _ => trivial⟩
        show _ = vs.getD i undef
        rcases Nat.lt_or_ge i vs.length with h1 | h1
        · simp [Array.getElem?_append, h1]
        · simp [Array.getElem?_append, Nat.not_lt.2 h1, Array.getElem?_replicate]
          split <;> rfl
      refine Code.wp_mono (fun e a w' hq => ?_) (code_sound hmix hc (S₀ := S) (PW.Le.refl _) (Nat.le_refl _) (by simp) hrel hst' (hvc _))
      have fin : ∀ f S1 ρ1, S.W.Le S1.W → S.σ.length ≤ S1.σ.length → Rel fn.ntmps ρ1 f S1.σ.length a → St ⟨B.W, B.ex, (List.range S.σ.length).map ρ⟩ ρ1 S1 w' → (match resG f S1 rs with | some l => ∃ v, plainRet l = some v ∧ K (.v v) S1 | none => False) →
          a.defers = [] ∧ ∃ v, (results fn a.tmps).run P w' = .ok v w' ∧ ∃ (g : GV) (S' : GS) (ρ' : Nat → Nat), Ending.returned v = .returned (g.real ρ') ∧ (∀ k, k < S.σ.length → ρ' k = ρ k) ∧ Grow [] S S' ∧ g.lt S'.σ.length ∧ St B ρ' S' w' ∧ K g S' := by
        intro f S1 ρ1 h1 h2 h3 h4 h5
        split at h5
        · rename_i gs hgs
          obtain ⟨v, hv, hK⟩ := h5
          have hag : ∀ k, k < S.σ.length → ρ1 k = ρ k := fun k hk => (h4.rc k (ρ k) (by rw [List.getElem?_map, List.getElem?_range hk]; (first | done | rfl))).2
          refine ⟨h3.defers, _, retVal_run h3 h4 hr hgs, .v v, S1, ρ1, by rw [plainRet_real hv ρ1]; (first | done | rfl), hag, ⟨h2, h1, ⟨fun _ hk => (by cases hk), fun hk => (by cases hk)⟩⟩, trivial, ?_, hK⟩
          exact ⟨h4.keep, h4.vsize, h4.vblock, h4.mono, h4.back, h4.loc, h4.locA, h4.inj, h4.cells, fun k g hk => by
            obtain ⟨k1, k2⟩ := hst.rc k g hk
            exact ⟨Nat.lt_of_lt_of_le k1 h2, (hag k k1).trans k2⟩, h4.own, h4.sep⟩
        · exact h5.elim
      cases e with
      | normal => obtain ⟨f, S1, ρ1, g1, g2, h1, h2, h3⟩ := hq; exact fin f S1 ρ1 g1 g2 h1 h2 h3
      | ret => obtain ⟨f, S1, ρ1, g1, g2, h1, h2, h3⟩ := hq; exact fin f S1 ρ1 g1 g2 h1 h2 h3
      | exit id => obtain ⟨f, S1, ρ1, _, _, _, _, h3⟩ := hq; exact h3.elim
      | goto l => exact hq.elim
      | panic ch => exact hq.elim
      | outgrown => exact hq.elim
    · cases hm
  · cases hm

/-! ## Operations -/
/-- A variable of strings.Builder's type. -/
theorem bld_alloc {o : Oper} {e : TypeId} {i : TypeInfo} {z : Value} {f : Fr} {prot : List Nat} {σ : List (List PV)} {O : List Own} {W : PW} {K : GV → GS → Prop} (ho : o.op = .alloc e) (hi : P.info? e = some i) (hz : i.zero = some z)
    (hc : z.cells.toList = [.pointer none, .slice none 0 0])
    (hK : ∀ b, W.w.heap.size ≤ b → K (.v (.pointer (some ⟨b, 0, none⟩))) ⟨σ, O ++ [⟨.slice (some ⟨b, 0, none⟩) 2 2, e, 1, 2, [.pointer none, .slice none 0 0]⟩], W⟩) : RawVC P B o f prot ⟨σ, O, W⟩ K := by
  refine ⟨fun ρ w ev hev hst => ?_⟩
  have hrun : (execOp ev o).run P w = .ok (.value (.pointer (some ⟨w.heap.size, 0, none⟩))) (w.alloc (.cells z.cells e)) := by
    obtain ⟨dst, op, type, pos, after, guard⟩ := o
    obtain rfl : op = .alloc e := ho
    simp only [execOp, Instr.alloc, zeroValue, typeInfo, Sem.run_bind, run_program, Result.andThen_ok, hi, hz, Sem.run_pure, newVar, newRow, newObj]
    simp [Sem.run]
  have hsz : z.cells.size = 2 := by rw [← Array.length_toList, hc]; (first | done | rfl)
  have hown : (w.alloc (.cells z.cells e)).ownsRow 0 e 1 (.slice (some ⟨w.heap.size, 0, none⟩) 2 2) 2 [.pointer none, .slice none 0 0] := by
    refine ⟨rfl, .inr ⟨w.heap.size, 2, z.cells, rfl, Nat.zero_le _, heap_alloc_new w _, Nat.le_refl _, by simp [maxLen], by rw [hsz], ?_⟩⟩
    rw [hc]; (first | done | rfl)
  exact ⟨.v _, ⟨σ, O ++ [⟨.slice (some ⟨w.heap.size, 0, none⟩) 2 2, e, 1, 2, [.pointer none, .slice none 0 0]⟩], W⟩, ρ, _, hrun, fun _ _ => rfl,
    ⟨Nat.le_refl _, PW.Le.refl _, ⟨fun _ _ => rfl, fun _ i o h => by show (O ++ [_])[i]? = _; rw [List.getElem?_append_left (List.getElem?_eq_some_iff.1 h).1]; exact h⟩⟩, trivial, hst.newOwn (o := ⟨.slice (some ⟨w.heap.size, 0, none⟩) 2 2, e, 1, 2, _⟩) hown rfl, hK _ hst.vsize⟩

theorem run_append_str {w : World} (t u ty e : TypeId) (i : TypeInfo) (ht : P.underlying t = some (.slice e)) (hu : P.underlying u = some .string) (hi : P.info? e = some i) (hz : i.zero = some (.int .u8 0)) (hsize : i.size = 1) (hby : i.bytes = 1)
    (v : Value) (n : Nat) (xs : List Value) (hown : w.ownsRow 0 e 1 v n xs) (s : ByteArray) (h63 : n + s.size ≤ maxLen) (hbytes : n + s.size ≤ 140737488355328) :
    ∃ v' w', (Builtin.append_ #[t, u] ty #[v, .string s]).run P w = .ok v' w' ∧ w'.ownsRow 0 e 1 v' (n + s.size) (xs ++ Lib.strCells s) ∧ w.grownBy w' v.ownBlock ∧ (v'.ownBlock = v.ownBlock ∨ v'.ownBlock = some w.heap.size) ∧
      (v' = .slice none 0 0 ↔ v = .slice none 0 0 ∧ s.size = 0) := by
  obtain ⟨v', w', h1, h2, h3, h4⟩ := Lib.run_append_own_string (P := P) w 0 t u ty e i ht hu hi hz hsize hby v n xs hown s h63 hbytes (Nat.zero_le _)
  refine ⟨v', w', h1, h2, h3, ?_, h4⟩
  have hsmall : n + s.size ≤ 9223372036854775807 := by simp only [maxLen] at h63; omega
  rcases hown.2 with ⟨rfl, rfl⟩ | ⟨g, cap, cur, rfl, _, hg, hnc, hcm, hcs, htake⟩
  · by_cases h0 : s.size = 0
    · rw [h4.2 ⟨rfl, h0⟩]; exact .inl rfl
    · have hr := run_append_nil_string (P := P) w t u ty e i (.int .u8 0) ht hu hi hz s (by omega) (by omega) (by rw [hby]; omega)
      rw [h1] at hr
      simp only [Result.ok.injEq] at hr
      rw [hr.1]; exact .inr rfl
  · by_cases hroom : n + s.size ≤ cap
    · have hcs' : cur.size = cap := by simpa using hcs
      have hr := Lib.run_append_room_string (P := P) w t u ty e i ht hu hi hsize g n cap cur hg s hroom (by omega)
      rw [h1] at hr
      simp only [Result.ok.injEq] at hr
      rw [hr.1]; exact .inl rfl
    · have holds : ∀ j u, xs[j]? = some u → w.cell? ((⟨g, 0, none⟩ : Addr).add j) = some u := hown.cells (g := g) rfl
      have hxl : xs.length = n := by simpa using hown.1
      have hr := Lib.run_append_grow_string (P := P) w t u ty e i (.int .u8 0) ht hu hi hz ⟨g, 0, none⟩ n cap xs (by rw [hsize]; simpa using hxl) holds s (by omega) (by omega) (by rw [hby]; exact growslice_fits (by omega) (by omega))
      rw [h1] at hr
      simp only [Result.ok.injEq] at hr
      rw [hr.1]; exact .inr rfl

/-- Appending a string's bytes to a slice that is owned. -/
theorem bld_app {o : Oper} {sl x : Operand} {t u e : TypeId} {i : TypeInfo} {f : Fr} {prot : List Nat} {σ : List (List PV)} {O : List Own} {W : PW} {K : GV → GS → Prop} (ho : o.op = .call { callee := .builtin .append, args := #[sl, x], argTypes := #[t, u] })
    (ht : P.underlying t = some (.slice e)) (hu : P.underlying u = some .string) (hi : P.info? e = some i) (hz : i.zero = some (.int .u8 0)) (hsize : i.size = 1) (hby : i.bytes = 1)
    {j n : Nat} {v : Value} {xs : List Value} {s : ByteArray} (hsl : evG f sl = .v v) (hx : evG f x = .v (.string s)) (hj : O[j]? = some ⟨v, e, 1, n, xs⟩) (h63 : n + s.size ≤ maxLen) (hbytes : n + s.size ≤ 140737488355328) (h0 : prot.contains 0 = false)
    (hK : ∀ A c, (Value.slice A (n + s.size) c = .slice none 0 0 ↔ v = .slice none 0 0 ∧ s.size = 0) → K (.v (.slice A (n + s.size) c)) ⟨σ, O.set j ⟨.slice A (n + s.size) c, e, 1, n + s.size, xs ++ Lib.strCells s⟩, W⟩) : RawVC P B o f prot ⟨σ, O, W⟩ K := by
  refine ⟨fun ρ w ev hev hst => ?_⟩
  have e1 := hev sl; rw [hsl] at e1
  have e2 := hev x; rw [hx] at e2
  obtain ⟨h1, _⟩ := hst.own j _ hj
  obtain ⟨v', w', hr, hown, hg, hbk, hn⟩ := run_append_str (P := P) t u o.type e i ht hu hi hz hsize hby v n xs h1 s h63 hbytes
  obtain ⟨A', c', rfl⟩ := own_form hown
  have hrun : (execOp ev o).run P w = .ok (.value (.slice A' (n + s.size) c')) w' := by
    obtain ⟨dst, op, type, pos, after, guard⟩ := o
    obtain rfl : op = .call { callee := .builtin .append, args := #[sl, x], argTypes := #[t, u] } := ho
    simp only [execOp, resolve, invoke, builtin, Sem.run_bind, Sem.run_pure, Result.andThen_ok, List.map_toArray, List.map_cons, List.map_nil, e1, e2, GV.real]
    dsimp only at hr
    simp only [hr, Result.andThen_ok]
  exact ⟨.v _, ⟨σ, O.set j _, W⟩, ρ, _, hrun, fun _ _ => rfl, ⟨Nat.le_refl _, PW.Le.refl _, ⟨fun _ hk => rfl, fun hk => absurd hk (not_mem_of h0)⟩⟩, trivial, hst.setOwn (o' := ⟨.slice A' (n + s.size) c', e, 1, n + s.size, xs ++ Lib.strCells s⟩) hj hg hown hbk, hK A' c' hn⟩

/-- unsafe.SliceData of a slice that is owned, and is not empty. -/
theorem bld_sd {o : Oper} {x : Operand} {ts : Array TypeId} {f : Fr} {prot : List Nat} {S : GS} {K : GV → GS → Prop} (ho : o.op = .call { callee := .builtin .unsafeSliceData, args := #[x], argTypes := ts })
    {j : Nat} {ow : Own} (hx : evG f x = .v ow.v) (hj : S.O[j]? = some ow) (hn : ow.n ≠ 0)
    (hK : ∀ g c, ow.v = .slice (some ⟨g, 0, none⟩) ow.n c → c ≠ 0 → K (.v (.pointer (some ⟨g, 0, none⟩))) S) : RawVC P B o f prot S K := by
  refine ⟨fun ρ w ev hev hst => ?_⟩
  have e1 := hev x; rw [hx] at e1
  obtain ⟨h1, _⟩ := hst.own j _ hj
  rcases h1.2 with ⟨_, h0⟩ | ⟨g, cap, cur, hv, _, _, hnc, _⟩
  · exact absurd h0 hn
  have hrun : (execOp ev o).run P w = .ok (.value (.pointer (some ⟨g, 0, none⟩))) w := by
    obtain ⟨dst, op, type, pos, after, guard⟩ := o
    obtain rfl : op = .call { callee := .builtin .unsafeSliceData, args := #[x], argTypes := ts } := ho
    have hr := Lib.run_unsafeSliceData_row (P := P) w ts type ⟨g, 0, none⟩ ow.n cap (by omega)
    simp only [execOp, resolve, invoke, builtin, Sem.run_bind, Sem.run_pure, Result.andThen_ok, List.map_toArray, List.map_cons, List.map_nil, e1, GV.real, hv, hr]
  exact ⟨.v _, S, ρ, _, hrun, fun _ _ => rfl, Grow.refl _ _, trivial, hst, hK g cap hv (by omega)⟩
/-- .. of one whose form is known. -/
theorem bld_sd2 {o : Oper} {x : Operand} {ts : Array TypeId} {f : Fr} {prot : List Nat} {S : GS} {K : GV → GS → Prop} (ho : o.op = .call { callee := .builtin .unsafeSliceData, args := #[x], argTypes := ts })
    {a : Addr} {n c : Nat} (hx : evG f x = .v (.slice (some a) n c)) (hc : c ≠ 0) (hK : K (.v (.pointer (some a))) S) : RawVC P B o f prot S K := by
  refine ⟨fun ρ w ev hev hst => ?_⟩
  have e1 := hev x; rw [hx] at e1
  have hrun : (execOp ev o).run P w = .ok (.value (.pointer (some a))) w := by
    obtain ⟨dst, op, type, pos, after, guard⟩ := o
    obtain rfl : op = .call { callee := .builtin .unsafeSliceData, args := #[x], argTypes := ts } := ho
    have hr := Lib.run_unsafeSliceData_row (P := P) w ts type a n c hc
    simp only [execOp, resolve, invoke, builtin, Sem.run_bind, Sem.run_pure, Result.andThen_ok, List.map_toArray, List.map_cons, List.map_nil, e1, GV.real, hr]
  exact ⟨.v _, S, ρ, _, hrun, fun _ _ => rfl, Grow.refl _ _, trivial, hst, hK⟩
theorem bld_sd0 {o : Oper} {x : Operand} {ts : Array TypeId} {f : Fr} {prot : List Nat} {S : GS} {K : GV → GS → Prop} (ho : o.op = .call { callee := .builtin .unsafeSliceData, args := #[x], argTypes := ts })
    {n c : Nat} (hx : evG f x = .v (.slice none n c)) (hK : K (.v (.pointer none)) S) : RawVC P B o f prot S K := by
  refine ⟨fun ρ w ev hev hst => ?_⟩
  have e1 := hev x; rw [hx] at e1
  have hrun : (execOp ev o).run P w = .ok (.value (.pointer none)) w := by
    obtain ⟨dst, op, type, pos, after, guard⟩ := o
    obtain rfl : op = .call { callee := .builtin .unsafeSliceData, args := #[x], argTypes := ts } := ho
    have hr := Lib.run_unsafeSliceData_nil (P := P) w ts type n c
    simp only [execOp, resolve, invoke, builtin, Sem.run_bind, Sem.run_pure, Result.andThen_ok, List.map_toArray, List.map_cons, List.map_nil, e1, GV.real, hr]
  exact ⟨.v _, S, ρ, _, hrun, fun _ _ => rfl, Grow.refl _ _, trivial, hst, hK⟩
/-- unsafe.String of no bytes. -/
theorem bld_us0 {o : Oper} {x y : Operand} {t u : TypeId} {f : Fr} {prot : List Nat} {S : GS} {K : GV → GS → Prop} (ho : o.op = .call { callee := .builtin .unsafeString, args := #[x, y], argTypes := #[t, u] })
    {a : Option Addr} (hx : evG f x = .v (.pointer a)) (hy : evG f y = .v (.int .i64 0)) (hK : K (.v (.string .empty)) S) : RawVC P B o f prot S K := by
  refine ⟨fun ρ w ev hev hst => ?_⟩
  have e1 := hev x; rw [hx] at e1
  have e2 := hev y; rw [hy] at e2
  have hrun : (execOp ev o).run P w = .ok (.value (.string .empty)) w := by
    obtain ⟨dst, op, type, pos, after, guard⟩ := o
    obtain rfl : op = .call { callee := .builtin .unsafeString, args := #[x, y], argTypes := #[t, u] } := ho
    have hr := Lib.run_unsafeString_none (P := P) w t u type a
    simp only [execOp, resolve, invoke, builtin, Sem.run_bind, Sem.run_pure, Result.andThen_ok, List.map_toArray, List.map_cons, List.map_nil, e1, e2, GV.real, hr]
  exact ⟨.v _, S, ρ, _, hrun, fun _ _ => rfl, Grow.refl _ _, trivial, hst, hK⟩
/-- A row of bytes that strings share: it is never written again. -/
def Frz (W : PW) (e : TypeId) (g : Nat) (l : List UInt8) : Prop :=
  W.A g ∧ ∃ cur : Array Value, W.w.heap[g]? = some (.cells cur e (0, l.length)) ∧ l.length ≤ cur.size ∧ ∀ (j : Nat) (x : UInt8), l[j]? = some x → cur[j]? = some (byteV x)
theorem Frz.mono {W W' : PW} {e : TypeId} {g : Nat} {l : List UInt8} (h : Frz W e g l) (le : W.Le W') : Frz W' e g l := by
  obtain ⟨h1, cur, h2, h3⟩ := h
  exact ⟨le.al g h1, cur, (le.bl g h1).trans h2, h3⟩
theorem freeze_row {w : World} {g n : Nat} {cur : Array Value} {e : TypeId} (hg : w.heap[g]? = some (.cells cur e (0, 0))) (hn : n ≠ 0) : (w.freeze ⟨g, 0, none⟩ n).heap[g]? = some (.cells cur e (0, n)) ∧
    (∀ b, b ≠ g → (w.freeze ⟨g, 0, none⟩ n).heap[b]? = w.heap[b]?) ∧ (w.freeze ⟨g, 0, none⟩ n).heap.size = w.heap.size ∧ (w.freeze ⟨g, 0, none⟩ n).os = w.os ∧ (w.freeze ⟨g, 0, none⟩ n).tape = w.tape ∧ (w.freeze ⟨g, 0, none⟩ n).output = w.output := by
  unfold World.freeze
  rw [if_neg hn]
  refine ⟨?_, fun b hb => ?_, by simp, rfl, rfl, rfl⟩
  · simp [Array.getElem?_modify, hg]
  · simp only [Array.getElem?_modify, if_neg (Ne.symm hb)]
theorem modify_same {h : Array Obj} {g : Nat} {x : Obj} (hg : h[g]? = some x) {F : Obj → Obj} (hF : F x = x) : h.modify g F = h := by
  apply Array.ext
  · simp
  · intro i h1 h2
    rw [Array.getElem_modify]
    split
    · rename_i e
      subst e
      rw [Array.getElem?_eq_getElem h2] at hg
      rw [Option.some.inj hg, hF]
    · rfl
theorem freeze_same {w : World} {g n : Nat} {cur : Array Value} {e : TypeId} (hg : w.heap[g]? = some (.cells cur e (0, n))) (hn : n ≠ 0) : w.freeze ⟨g, 0, none⟩ n = w := by
  unfold World.freeze
  rw [if_neg hn]
  have h0 : ((0 : Nat) == n) = false := by simpa using (Ne.symm hn)
  exact congrArg (fun h => ({ w with heap := h } : World)) (modify_same hg (by simp [h0]))

/-- unsafe.String, the first time: the bytes are shared from now on. -/
theorem bld_us1 {o : Oper} {x y : Operand} {t u e : TypeId} {f : Fr} {prot : List Nat} {σ : List (List PV)} {O : List Own} {W : PW} {K : GV → GS → Prop} (ho : o.op = .call { callee := .builtin .unsafeString, args := #[x, y], argTypes := #[t, u] })
    (ht : P.underlying t = some (.pointer e)) (hc : P.cellsOf e = 1) (hex : B.ex = []) {g c j : Nat} {l : List UInt8} (hx : evG f x = .v (.pointer (some ⟨g, 0, none⟩))) (hy : evG f y = .v (.int .i64 l.length))
    (hj : O[j]? = some ⟨.slice (some ⟨g, 0, none⟩) l.length c, e, 1, l.length, l.map byteV⟩) (hl : l ≠ []) (h63 : l.length ≤ 9223372036854775807) (h0 : prot.contains 0 = false)
    (hK : ∀ W', W.Le W' → Frz W' e g l → K (.v (.string ⟨⟨l⟩⟩)) ⟨σ, O.eraseIdx j, W'⟩) : RawVC P B o f prot ⟨σ, O, W⟩ K := by
  refine ⟨fun ρ w ev hev hst => ?_⟩
  have e1 := hev x; rw [hx] at e1
  have e2 := hev y; rw [hy] at e2
  obtain ⟨h1, h2⟩ := hst.own j _ hj
  have hln : l.length ≠ 0 := by simpa using hl
  rcases h1.2 with ⟨h3, _⟩ | ⟨g', cap, cur, hv, _, hg, hnc, hcm, hcs, htake⟩
  · cases h3
  obtain ⟨rfl, rfl⟩ : g = g' ∧ c = cap := by simpa using hv
  have hcs : cur.size = c := by simpa using hcs
  have hnc : l.length ≤ c := hnc
  have htake : cur.toList.take l.length = l.map byteV := by simpa using htake
  have hcur : ∀ (k : Nat) (b : UInt8), l[k]? = some b → cur[k]? = some (byteV b) := by
    intro k b hk
    have hkl := (List.getElem?_eq_some_iff.1 hk).1
    rw [← Array.getElem?_toList, ← List.getElem?_take_of_lt hkl, htake, List.getElem?_map, hk]; (first | done | rfl)
  have hcell : ∀ (k : Nat) (b : UInt8), l[k]? = some b → w.cell? ((⟨g, 0, none⟩ : Addr).add k) = some (.int .u8 b.toNat) := by
    intro k b hk
    rw [add_lit, Nat.zero_add]
    simp only [World.cell?, hg]
    exact hcur k b hk
  obtain ⟨k1, k2, k3, k4, k5, k6⟩ := freeze_row hg hln
  have hrun : (execOp ev o).run P w = .ok (.value (.string ⟨⟨l⟩⟩)) (w.freeze ⟨g, 0, none⟩ l.length) := by
    obtain ⟨dst, op, type, pos, after, guard⟩ := o
    obtain rfl : op = .call { callee := .builtin .unsafeString, args := #[x, y], argTypes := #[t, u] } := ho
    have hr := Lib.run_unsafeString_row (P := P) w t u type e ht hc g cur.size (by simp [World.shape?, hg]) l hl (by omega) h63 hcell
    simp only [execOp, resolve, invoke, builtin, Sem.run_bind, Sem.run_pure, Result.andThen_ok, List.map_toArray, List.map_cons, List.map_nil, e1, e2, GV.real, hr]
  have hg2 := h2 g rfl
  have hBg : B.W.w.heap.size ≤ g := hg2.2.1.elim (fun h => by rw [hex] at h; cases h) id
  have hglt := heap_lt hg
  let W' : PW := ⟨w.freeze ⟨g, 0, none⟩ l.length, fun b => W.A b ∨ b = g, fun b hb => by
    rw [k3]
    rcases hb with hb | rfl
    · exact hst.A_lt hb
    · exact hglt⟩
  have hAne : ∀ b, W.A b → b ≠ g := fun b hb e => hg2.1 (e ▸ hb)
  have hle : W.Le W' := ⟨by show _ ≤ (w.freeze _ _).heap.size; rw [k3]; exact hst.vsize, fun _ hb => .inl hb, fun b hb => by
    show (w.freeze _ _).heap[b]? = _
    rw [k2 b (hAne b hb)]; exact hst.vblock b hb⟩
  refine ⟨.v _, ⟨σ, O.eraseIdx j, W'⟩, ρ, _, hrun, fun _ _ => rfl, ⟨Nat.le_refl _, hle, ⟨fun _ _ => rfl, fun hk => absurd hk (not_mem_of h0)⟩⟩, trivial, ?_, hK W' hle ⟨.inr rfl, cur, k1, by omega, hcur⟩⟩
  refine ⟨⟨k4.trans hst.keep.os, k5.trans hst.keep.tape, k6.trans hst.keep.output, by rw [k3]; exact hst.keep.size, fun b hb he => ?_⟩, Nat.le_refl _, fun _ _ => rfl, hst.mono.trans hle, ?_, ?_, ?_, hst.inj, hst.cells, hst.rc, ?_, erase_sep hst⟩
  · rw [k2 b (by omega)]; exact hst.keep.block b hb he
  · intro b hb
    rcases hb with hb | rfl
    · exact hst.back b hb
    · exact .inr hBg
  · intro k cs hk
    obtain ⟨e', he'⟩ := hst.loc k cs hk
    exact ⟨e', by rw [k2 _ (hg2.2.2 k (List.getElem?_eq_some_iff.1 hk).1)]; exact he'⟩
  · intro k hk
    refine ⟨fun hA => ?_, (hst.locA k hk).2⟩
    rcases hA with hA | hA
    · exact (hst.locA k hk).1 hA
    · exact hg2.2.2 k hk hA
  · intro i oi hi
    obtain ⟨j', hne, hj', _⟩ := erase_mem i oi hi
    obtain ⟨m1, m2⟩ := hst.own j' oi hj'
    have hob : ∀ b, oi.v.ownBlock = some b → b ≠ g := fun b hb e => hne (hst.sep j' j oi _ b hj' hj hb (by rw [e]; (first | done | rfl)))
    refine ⟨⟨m1.1, ?_⟩, fun b hb => ⟨fun hA => ?_, (m2 b hb).2⟩⟩
    · rcases m1.2 with q | ⟨g2, cap2, cur2, q1, q2, q3, q4⟩
      · exact .inl q
      · exact .inr ⟨g2, cap2, cur2, q1, q2, (k2 g2 (hob g2 (by rw [q1]; (first | done | rfl)))).trans q3, q4⟩
    · rcases hA with hA | hA
      · exact (m2 b hb).1 hA
      · exact hob b hb hA
/-- .. once more: nothing turns. -/
theorem bld_us2 {o : Oper} {x y : Operand} {t u e : TypeId} {f : Fr} {prot : List Nat} {S : GS} {K : GV → GS → Prop} (ho : o.op = .call { callee := .builtin .unsafeString, args := #[x, y], argTypes := #[t, u] })
    (ht : P.underlying t = some (.pointer e)) (hc : P.cellsOf e = 1) {g : Nat} {l : List UInt8} (hx : evG f x = .v (.pointer (some ⟨g, 0, none⟩))) (hy : evG f y = .v (.int .i64 l.length))
    (hF : Frz S.W e g l) (hl : l ≠ []) (h63 : l.length ≤ 9223372036854775807) (hK : K (.v (.string ⟨⟨l⟩⟩)) S) : RawVC P B o f prot S K := by
  refine ⟨fun ρ w ev hev hst => ?_⟩
  have e1 := hev x; rw [hx] at e1
  have e2 := hev y; rw [hy] at e2
  obtain ⟨hA, cur, hg, hn, hcur⟩ := hF
  have hln : l.length ≠ 0 := by simpa using hl
  have hg : w.heap[g]? = some (.cells cur e (0, l.length)) := (hst.vblock g hA).trans hg
  have hcell : ∀ (k : Nat) (b : UInt8), l[k]? = some b → w.cell? ((⟨g, 0, none⟩ : Addr).add k) = some (.int .u8 b.toNat) := by
    intro k b hk
    rw [add_lit, Nat.zero_add]
    simp only [World.cell?, hg]
    exact hcur k b hk
  have hrun : (execOp ev o).run P w = .ok (.value (.string ⟨⟨l⟩⟩)) w := by
    obtain ⟨dst, op, type, pos, after, guard⟩ := o
    obtain rfl : op = .call { callee := .builtin .unsafeString, args := #[x, y], argTypes := #[t, u] } := ho
    have hr := Lib.run_unsafeString_row (P := P) w t u type e ht hc g cur.size (by simp [World.shape?, hg]) l hl hn h63 hcell
    rw [freeze_same hg hln] at hr
    simp only [execOp, resolve, invoke, builtin, Sem.run_bind, Sem.run_pure, Result.andThen_ok, List.map_toArray, List.map_cons, List.map_nil, e1, e2, GV.real, hr]
  exact ⟨.v _, S, ρ, _, hrun, fun _ _ => rfl, Grow.refl _ _, trivial, hst, hK⟩
end
end Go.Proofs.YtkhgmmejgikgnaaDoor

/- strings.Builder: WriteString, Len, String, walked in their callers' place. -/
namespace Go.Proofs.YtkhgmmejgikgnaaDoor
open Go.RowKit

/-- A builder's variable: whether it has been used, its buffer. -/
def bldO (b : Nat) (p v : Value) : Own := ⟨.slice (some ⟨b, 0, none⟩) 2 2, 99, 1, 2, [p, v]⟩
/-- Its buffer. -/
def bufO (v : Value) (l : List UInt8) : Own := ⟨v, 5, 1, l.length, l.map byteV⟩
def bldP (b : Nat) : Value := .pointer (some ⟨b, 0, none⟩)
def Used (b : Nat) (p : Value) : Prop := p = .pointer none ∨ p = bldP b

section
variable {B : Base} {σ : List (List PV)} {O : List Own} {W : PW} {K : GV → GS → Prop}

theorem bld_check {i b : Nat} {p v : Value} (hi : O[i]? = some (bldO b p v)) (hu : Used b p) (hK : K (.v (.tuple #[])) ⟨σ, O.set i (bldO b (bldP b) v), W⟩) : CallVC Tryd.prog B 109 [.v (bldP b)] [] ⟨σ, O, W⟩ K := by
  refine ⟨⟨_, Tryd.func109, by kernel_rfl, by kernel_rfl⟩, fun ρ w hst => ?_⟩
  have L : Lays.n240 Tryd.prog Tryd.lays156_ren := { Tryd.lays156 with }
  obtain ⟨h1, _⟩ := hst.own i _ hi
  rcases h1.2 with ⟨h3, _⟩ | ⟨g, cap, cur, hv, _, hg, hnc, hcm, hcs, htake⟩
  · cases h3
  obtain ⟨rfl, rfl⟩ : b = g ∧ 2 = cap := by simpa [bldO] using hv
  have hcs : cur.size = 2 := hcs
  have hcur : cur = #[p, v] := by
    apply Array.ext'
    have : cur.toList.take 2 = [p, v] := htake
    rw [List.take_of_length_le (by rw [Array.length_toList]; omega)] at this
    exact this
  subst hcur
  have hg : w.heap[b]? = some (.cells #[p, v] 99 (0, 0)) := hg
  have h0 : w.cell? ⟨b, 0, none⟩ = some p := by simp [World.cell?, hg]
  have hlt := (List.getElem?_eq_some_iff.1 hi).1
  rcases hu with rfl | rfl
  · refine (Any.Builder_copyCheck_fresh L Tryd.Builder_Extra_156.toX72 b w h0 (by simp [World.shape?, hg]; (first | done | rfl)) (by simp [World.frozen?, hg])).mono fun e w' ⟨he, hw⟩ => ?_
    subst hw
    refine ⟨.v (.tuple #[]), ⟨σ, O.set i (bldO b (bldP b) v), W⟩, ρ, he, fun _ _ => rfl, ⟨Nat.le_refl _, PW.Le.refl _, ⟨fun _ hk => rfl, fun hk => by cases hk⟩⟩, trivial, ?_, hK⟩
    refine hst.setOwn (o' := bldO b (bldP b) v) hi ⟨rfl, rfl, rfl, by simp [World.setCell], fun k _ hk => Below.heap_setCell _ _ _ _ (fun e => hk (by simp [e, bldO, Value.ownBlock]))⟩ ?_ (.inl rfl)
    refine ⟨rfl, .inr ⟨b, 2, #[bldP b, v], rfl, Nat.zero_le _, ?_, Nat.le_refl _, hcm, rfl, rfl⟩⟩
    simp [World.setCell, Array.getElem?_modify, hg, bldP, bldO]
  · refine (Any.Builder_copyCheck_used L Tryd.Builder_Extra_156.toX72 b w h0).mono fun e w' ⟨he, hw⟩ => ?_
    subst hw
    have hO : O.set i (bldO b (bldP b) v) = O := by
      apply List.ext_getElem?
      intro k
      by_cases hk : i = k
      · subst hk; rw [List.getElem?_set_self hlt, hi]
      · rw [List.getElem?_set_ne hk]
    rw [hO] at hK
    exact ⟨.v (.tuple #[]), ⟨σ, O, W⟩, ρ, he, fun _ _ => rfl, Grow.refl _ _, trivial, hst, hK⟩
theorem set3 {α : Type} {O : List α} {i j : Nat} (h : i ≠ j) (x y z : α) : ((O.set i x).set j y).set i z = (O.set i z).set j y := by
  rw [List.set_comm _ _ (Ne.symm h), List.set_set]

theorem bld_write {i j b : Nat} {p v : Value} {l s : List UInt8} (hi : O[i]? = some (bldO b p v)) (hj : O[j]? = some (bufO v l)) (hij : i ≠ j) (hu : Used b p) (hlen : l.length + s.length ≤ 140737488355328)
    (hK : ∀ A c, (Value.slice A (l ++ s).length c = .slice none 0 0 ↔ v = .slice none 0 0 ∧ s.length = 0) → K (.v (.tuple #[.int .i64 s.length, .nilIface])) ⟨σ, (O.set i (bldO b (bldP b) (.slice A (l ++ s).length c))).set j (bufO (.slice A (l ++ s).length c) (l ++ s)), W⟩) :
    CallVC Tryd.prog B 114 [.v (bldP b), .v (strV s)] [] ⟨σ, O, W⟩ K := by
  have hil := (List.getElem?_eq_some_iff.1 hi).1
  refine call_inl (vs := [bldP b, strV s]) hmix Tryd.func114 r114 (by kernel_rfl) rfl rfl fun rc => ?_
  refine bld_check hi hu ?_
  have hi1 : (O.set i (bldO b (bldP b) v))[i]? = some (bldO b (bldP b) v) := List.getElem?_set_self hil
  have hj1 : (O.set i (bldO b (bldP b) v))[j]? = some (bufO v l) := by rw [List.getElem?_set_ne hij]; exact hj
  refine ⟨v, .inr ⟨i, bldO b (bldP b) v, ⟨b, 0, none⟩, 2, 2, 1, hi1, rfl, rfl, rfl⟩, ?_⟩
  have hm : l.length + s.length ≤ maxLen := by have : (140737488355328 : Nat) ≤ maxLen := by decide
                                               omega
  obtain ⟨ti, e0, e1, e2, e3⟩ := info_parts Tryd.Builder_Extra_156.infoByte
  refine bld_app (j := j) (n := l.length) (xs := l.map byteV) (s := ⟨⟨s⟩⟩) rfl Tryd.underlying33 Tryd.underlying9 e0 e1 e2 e3 rfl rfl hj1 hm hlen rfl fun A c hn => ?_
  have hi2 : ((O.set i (bldO b (bldP b) v)).set j ⟨.slice A (l.length + s.length) c, 5, 1, l.length + s.length, l.map byteV ++ Lib.strCells ⟨⟨s⟩⟩⟩)[i]? = some (bldO b (bldP b) v) := by rw [List.getElem?_set_ne (Ne.symm hij)]; exact hi1
  refine ⟨i, bldO b (bldP b) v, ⟨b, 0, none⟩, 2, 2, 1, hi2, rfl, rfl, rfl, fun u hu => ?_, Nat.le_refl 2, rfl, ?_⟩
  · rw [List.mem_singleton.1 hu]; (first | done | rfl)
  refine ⟨_, rfl, ?_⟩
  have h := hK A c (by rw [List.length_append]; exact hn)
  rw [List.length_append] at h
  have e : bufO (.slice A (l.length + s.length) c) (l ++ s) = ⟨.slice A (l.length + s.length) c, 5, 1, l.length + s.length, l.map byteV ++ Lib.strCells ⟨⟨s⟩⟩⟩ := by
    unfold bufO
    rw [List.length_append, List.map_append]; (first | done | rfl)
  rw [e, ← set3 hij (bldO b (bldP b) v)] at h
  exact h

theorem bld_len {i b n c : Nat} {p : Value} {A : Option Addr} (hi : O[i]? = some (bldO b p (.slice A n c))) (hK : K (.v (.int .i64 n)) ⟨σ, O, W⟩) : CallVC Tryd.prog B 92 [.v (bldP b)] [] ⟨σ, O, W⟩ K := by
  refine call_inl (vs := [bldP b]) hmix Tryd.func92 r92 (by kernel_rfl) rfl rfl fun rc => ?_
  exact ⟨.slice A n c, .inr ⟨i, _, ⟨b, 0, none⟩, 2, 2, 1, hi, rfl, rfl, rfl⟩, _, rfl, hK⟩

/-- String, the first time: the buffer is not written from now on. -/
theorem bld_str {i j b c : Nat} {p : Value} {A : Option Addr} {l : List UInt8} (hex : B.ex = []) (hi : O[i]? = some (bldO b p (.slice A l.length c))) (hj : O[j]? = some (bufO (.slice A l.length c) l)) (hl : l ≠ []) (h63 : l.length ≤ 9223372036854775807)
    (hK : ∀ g W', A = some ⟨g, 0, none⟩ → c ≠ 0 → W.Le W' → Frz W' 5 g l → K (.v (strV l)) ⟨σ, O.eraseIdx j, W'⟩) : CallVC Tryd.prog B 65 [.v (bldP b)] [] ⟨σ, O, W⟩ K := by
  refine call_inl (vs := [bldP b]) hmix Tryd.func65 r65 (by kernel_rfl) rfl rfl fun rc => ?_
  have hl0 : l.length ≠ 0 := by simpa using hl
  refine ⟨.slice A l.length c, .inr ⟨i, _, ⟨b, 0, none⟩, 2, 2, 1, hi, rfl, rfl, rfl⟩, .slice A l.length c, .inr ⟨i, _, ⟨b, 0, none⟩, 2, 2, 1, hi, rfl, rfl, rfl⟩, ?_⟩
  refine bld_sd (j := j) (ow := bufO (.slice A l.length c) l) rfl rfl hj hl0 fun g c' hv hc => ?_
  obtain ⟨rfl, rfl⟩ : A = some ⟨g, 0, none⟩ ∧ c = c' := by simpa [bufO] using hv
  refine bld_us1 (j := j) (e := 5) (g := g) (c := c) (l := l) rfl Tryd.underlying142 Tryd.Builder_Extra_156.cellsByte hex rfl rfl hj hl h63 rfl fun W' hle hF => ?_
  exact ⟨_, rfl, hK g W' rfl hc hle hF⟩
theorem bld_str0 {i b c : Nat} {p : Value} (hi : O[i]? = some (bldO b p (.slice none 0 c))) (hK : K (.v (strV [])) ⟨σ, O, W⟩) : CallVC Tryd.prog B 65 [.v (bldP b)] [] ⟨σ, O, W⟩ K := by
  refine call_inl (vs := [bldP b]) hmix Tryd.func65 r65 (by kernel_rfl) rfl rfl fun rc => ?_
  refine ⟨.slice none 0 c, .inr ⟨i, _, ⟨b, 0, none⟩, 2, 2, 1, hi, rfl, rfl, rfl⟩, .slice none 0 c, .inr ⟨i, _, ⟨b, 0, none⟩, 2, 2, 1, hi, rfl, rfl, rfl⟩, ?_⟩
  refine bld_sd0 rfl rfl ?_
  refine bld_us0 rfl rfl rfl ?_
  exact ⟨_, rfl, hK⟩
/-- .. and once more. -/
theorem bld_str2 {i b g c : Nat} {p : Value} {l : List UInt8} (hi : O[i]? = some (bldO b p (.slice (some ⟨g, 0, none⟩) l.length c))) (hl : l ≠ []) (h63 : l.length ≤ 9223372036854775807) (hc : c ≠ 0) (hF : Frz W 5 g l)
    (hK : K (.v (strV l)) ⟨σ, O, W⟩) : CallVC Tryd.prog B 65 [.v (bldP b)] [] ⟨σ, O, W⟩ K := by
  refine call_inl (vs := [bldP b]) hmix Tryd.func65 r65 (by kernel_rfl) rfl rfl fun rc => ?_
  refine ⟨_, .inr ⟨i, _, ⟨b, 0, none⟩, 2, 2, 1, hi, rfl, rfl, rfl⟩, _, .inr ⟨i, _, ⟨b, 0, none⟩, 2, 2, 1, hi, rfl, rfl, rfl⟩, ?_⟩
  refine bld_sd2 rfl rfl hc ?_
  refine bld_us2 (e := 5) rfl Tryd.underlying142 Tryd.Builder_Extra_156.cellsByte rfl rfl hF hl h63 ?_
  exact ⟨_, rfl, hK⟩
end
end Go.Proofs.YtkhgmmejgikgnaaDoor
