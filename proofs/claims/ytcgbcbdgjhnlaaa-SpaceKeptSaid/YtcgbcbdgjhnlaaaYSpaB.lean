/- Layer 19 (space), walked: slices.Clone, and configurations that are copied. No statement is proved here. -/
import Derived.Test.YtcgbcbdgjhnlaaaYSpaA
import Derived.Test.YtcgbcbdgjhnlaaaYCodeSE
import Derived.Lib.SliceRun
namespace Go.Proofs.Ytcgbcbdgjhnlaaa
open Go.RowKit

section
variable {P : Program} {B : Base}
/-- A slice compared with nil. -/
theorem raw_slnil {o : Oper} {t te ty : TypeId} {x : Operand} {A : Option Addr} {n c : Nat} {f : Fr} {prot : List Nat} {S : GS} {K : GV → GS → Prop} (ht : P.underlying t = some (.slice te)) (ho : o.op = .binOp .eql t x (.const (.slice none 0 0)) ty) (hx : evG f x = .v (.slice A n c)) (hK : K (.v (.bool A.isNone)) S) : RawVC P B o f prot S K := by
  refine ⟨fun ρ w ev hev hst => ⟨.v (.bool A.isNone), S, ρ, w, .inl ?_, fun _ _ => rfl, Grow.refl _ _, trivial, hst, hK⟩⟩
  obtain ⟨dst, op, type, pos, after, guard⟩ := o
  obtain rfl : op = .binOp .eql t x (.const (.slice none 0 0)) ty := ho
  have e1 : ev x = .slice A n c := by rw [hev, hx]; rfl
  have e2 : ev (.const (.slice none 0 0)) = .slice none 0 0 := by rw [hev]; rfl
  have e3 : (eqGuard .eql t x (.const (.slice none 0 0)) (.slice A n c) (.slice none 0 0)).run P w = .ok () w := rfl
  simp only [execOp, e1, e2, Sem.run_bind, e3, Result.andThen_ok, Lib.run_eql_slice_nil w t te A n c 0 0 ht]
  rfl
/-- An empty slice, made: it is owned. -/
theorem raw_build0 {o : Oper} {t e : TypeId} {i : TypeInfo} {sz : Nat} {f : Fr} {prot : List Nat} {S : GS} {K : GV → GS → Prop} (hu : P.underlying t = some (.slice e)) (hi : P.info? e = some i) (ho : o.op = .buildSlice t 0 ⟨[]⟩)
    (hK : ∀ b : Nat, K (.v (.slice (some ⟨b, 0, none⟩) 0 0)) (S.modO fun O => O ++ [⟨.slice (some ⟨b, 0, none⟩) 0 0, e, sz, 0, []⟩])) : RawVC P B o f prot S K := by
  refine ⟨fun ρ w ev hev hst => ?_⟩
  obtain ⟨dst, op, type, pos, after, guard⟩ := o
  obtain rfl : op = .buildSlice t 0 ⟨[]⟩ := ho
  obtain ⟨σ, O, W⟩ := S
  have hrun : (Instr.buildSlice t 0 #[]).run P w = .ok (.slice (some ⟨w.heap.size, 0, none⟩) 0 0) (w.alloc (.cells #[] e)) := by
    have h0 : ∀ f : Nat → Value, Array.map f (Array.range 0) = #[] := fun f => Array.eq_empty_of_size_eq_zero (by simp)
    simp [Instr.buildSlice, run_underlying hu, sizeOf, typeInfo, hi, newRow, Instr.fill, h0]
  have hok : (execOp ev ⟨dst, .buildSlice t 0 ⟨[]⟩, type, pos, after, guard⟩).run P w = .ok (.value (.slice (some ⟨w.heap.size, 0, none⟩) 0 0)) (w.alloc (.cells #[] e)) := by
    simp only [execOp, Sem.run_bind]
    rw [show ((⟨[]⟩ : Array (Nat × Operand)).map fun (x : Nat × Operand) => (x.1, ev x.2)) = #[] from by simp, hrun]
    rfl
  have hown : (w.alloc (.cells #[] e)).ownsRow 0 e sz (.slice (some ⟨w.heap.size, 0, none⟩) 0 0) 0 [] :=
    ⟨by simp, .inr ⟨w.heap.size, 0, _, rfl, Nat.zero_le _, heap_alloc_new w _, Nat.le_refl _, Nat.zero_le _, by simp, by simp⟩⟩
  exact ⟨.v _, ⟨σ, O ++ [_], W⟩, ρ, _, .inl hok, fun _ _ => rfl, ⟨Nat.le_refl _, PW.Le.refl _, ⟨fun _ _ => rfl, fun _ i o h => by show (O ++ [_])[i]? = _; rw [List.getElem?_append_left (List.getElem?_eq_some_iff.1 h).1]; exact h⟩⟩, trivial, hst.newOwn (o := ⟨.slice (some ⟨w.heap.size, 0, none⟩) 0 0, e, sz, 0, []⟩) hown rfl, hK _⟩

/-- The code of slices.Clone. -/
@[reducible] def cloneC (t e sz bytes : Nat) : MC :=
   (.seq
    (.ops [i_ 2 (.mv (.const (.slice none 0 0)))])
    (.seq
     (.seq
      (.ops [i_ 3 (.mv (T 0)),
        i_ 4 (.raw ⟨(some 4), (.binOp .eql t (T 3) (.const (.slice none 0 0)) t), 4, "slices.go:357", ⟨[⟨0, .data⟩]⟩, none⟩)])
      (.cond (T 4)
       (.seq
        (.ops [i_ 2 (.mv (.const (.slice none 0 0)))])
        .ret)
       .skip))
     (.seq
      (.ops [i_ 5 (.raw ⟨(some 5), (.buildSlice t 0 ⟨[]⟩), t, "slices.go:362", ⟨[]⟩, none⟩),
        i_ 6 (.mv (T 0)),
        i_ 7 (.append e sz bytes (T 5) (T 6)),
        i_ 2 (.mv (T 7))])
      .ret)))
theorem clone_x {fid : FuncId} {fn : Func} {t e sz bytes : Nat} {i : TypeInfo} (hmix : P.follows .mixedOrders = true) (hu : P.underlying t = some (.slice e)) (hi : P.info? e = some i) (hf : P.funcs[fid]? = some fn) (hm : resF P fn = some ⟨8, [.tmp 2], cloneC t e sz bytes⟩) (hname : (fn.name == "runtime.NumGoroutine") = false)
    {W : PW} {v : Value} {n : Nat} {cs : List Value} (hs : SlRead W v n cs) (hone : ∀ u ∈ cs, u.oneCell' = true) (hl : cs.length = n * sz) (hn : n ≤ 100000) (hb : bytes ≤ 1000) : CallsX P fid ⟨[v]⟩ [] W fun u W' => SlRead W' u n cs := by
  obtain ⟨A, c, rfl, hnc, hcm, hr⟩ := hs
  have hmax := maxLen_big
  refine pureX hmix hf hm hname [.slice A n c] rfl ?_
  refine raw_slnil hu rfl rfl ?_
  cases A with
  | none =>
    have h0 : n = 0 := by
      rcases Nat.eq_zero_or_pos n with h | h
      · exact h
      · obtain ⟨a, ha, _⟩ := hr h; cases ha
    subst h0
    have hcs : cs = [] := List.eq_nil_of_length_eq_zero (by rw [hl, Nat.zero_mul])
    subst hcs
    exact ret_plain rfl fun W' _ => SlRead.nil W' _
  | some a =>
    refine raw_build0 (sz := sz) hu hi rfl fun b => ?_
    refine ⟨0, _, cs, rfl, rfl, rfl, rfl, hl, hone, fun hp => ?_, by show 0 + n ≤ maxLen; omega, ?_, rfl, @fun A' c' _ => ?_⟩
    · obtain ⟨a', ha, hrd⟩ := hr hp
      exact ⟨a', ha, hrd.o⟩
    · show (0 + n) * bytes ≤ 140737488355328
      have : (0 + n) * bytes ≤ 100000 * 1000 := Nat.mul_le_mul (by omega) hb
      omega
    · refine RetVC.freeze (i := 0) (fun _ hb => hb) rfl fun W3 l3 hfr => ?_
      refine ret_plain rfl fun W4 l4 => ?_
      have h1 := hfr.mono l4
      have h2 : SlRead W4 (.slice A' (0 + n) c') (0 + n) ([] ++ cs) := h1
      rw [Nat.zero_add, List.nil_append] at h2
      show SlRead W4 (.slice A' (0 + n) c') n cs
      rw [Nat.zero_add]
      exact h2
end

theorem info_some (e : TypeId) (h : (Try.prog.info? e).isSome = true) : ∃ i, Try.prog.info? e = some i := Option.isSome_iff_exists.1 h
def BdR (r : RelS) : Prop := r.types.length ≤ 1000 ∧ r.nodes.length ≤ 1000
def BdC (c : ConfS) : Prop := c.spaces.length ≤ 1000 ∧ c.scopes.length ≤ 1000 ∧ ∀ s ∈ c.spaces, s.rels.length ≤ 1000 ∧ ∀ r ∈ s.rels, BdR r

theorem one_flat {α : Type} {f : α → List Value} (hf : ∀ x, ∀ u ∈ f x, u.oneCell' = true) (xs : List α) : ∀ u ∈ (xs.map f).flatten, u.oneCell' = true := by
  intro u hu
  obtain ⟨l, hl, hu⟩ := List.mem_flatten.1 hu
  obtain ⟨x, _, rfl⟩ := List.mem_map.1 hl
  exact hf x u hu
theorem len_flat {α : Type} {f : α → List Value} {sz : Nat} (hf : ∀ x, (f x).length = sz) : ∀ xs : List α, ((xs.map f).flatten).length = xs.length * sz
  | [] => by simp
  | x :: r => by rw [List.map_cons, List.flatten_cons, List.length_append, hf, len_flat hf r, List.length_cons, Nat.succ_mul]; omega
theorem clonet_x (l : List TypS) (v : Value) (W : PW) (hn : l.length ≤ 1000) (h : RP typC W v l) : CallsX Try.prog 155 ⟨[v]⟩ [] W fun u W' => RP typC W' u l :=
  clone_x (t := 85) (e := 166) (sz := 2) (bytes := 32) hmix Try.underlying85 (info_some 166 (by kernel_rfl)).choose_spec Try.func155 r155 (by kernel_rfl) h (one_flat typC_one l) (len_flat (f := typC) (sz := 2) (fun _ => rfl) l) (by omega) (by decide)
theorem clonen_x (l : List NodeS) (v : Value) (W : PW) (hn : l.length ≤ 1000) (h : RP nodeC W v l) : CallsX Try.prog 156 ⟨[v]⟩ [] W fun u W' => RP nodeC W' u l :=
  clone_x (t := 86) (e := 93) (sz := 5) (bytes := 56) hmix Try.underlying86 (info_some 93 (by kernel_rfl)).choose_spec Try.func156 r156 (by kernel_rfl) h (one_flat nodeC_one l) (len_flat (f := nodeC) (sz := 5) (fun _ => rfl) l) (by omega) (by decide)
theorem clones_x (l : List ScopeS) (v : Value) (W : PW) (hn : l.length ≤ 1000) (h : RP scopeC W v l) : CallsX Try.prog 157 ⟨[v]⟩ [] W fun u W' => RP scopeC W' u l :=
  clone_x (t := 72) (e := 163) (sz := 4) (bytes := 64) hmix Try.underlying72 (info_some 163 (by kernel_rfl)).choose_spec Try.func157 r157 (by kernel_rfl) h (one_flat scopeC_one l) (len_flat (f := scopeC) (sz := 4) (fun _ => rfl) l) (by omega) (by decide)

set_option maxHeartbeats 8000000 in
theorem copied_x (x : ConfS) (cs : List Value) (W : PW) (hB : BdC x) (h : ConfR W x cs) : CallsX Try.prog 123 ⟨[.agg ⟨cs⟩]⟩ [] W fun v W' => ∃ cells, v = .agg ⟨cells⟩ ∧ ConfR W' x cells := by
  obtain ⟨hb1, hb2, hb3⟩ := hB
  obtain ⟨sv, kv, rfl, hS, hK⟩ := h
  obtain ⟨a1, c1, rfl, _, hc1⟩ := hS.form
  obtain ⟨a2, c2, rfl, _, hc2⟩ := hK.form
  have hmax := maxLen_big
  refine pureNX hmix Try.func123 r123 (by kernel_rfl) [nilO 83 2] rfl [.agg ⟨[.slice a1 x.spaces.length c1, .slice a2 x.scopes.length c2]⟩] rfl ?_
  refine ⟨FwS, fun t => [(12, .v (.int .i64 t.i))], fun t => [[.v (.slice a1 x.spaces.length c1), .v (.slice a2 x.scopes.length c2)], [.v nilS, .v nilS], [.v (.slice t.A t.i t.c), .v nilS]], fun t => spO t.A t.i t.c t.css :: t.d, fun t W' => t.i ≤ x.spaces.length ∧ FInv W' (x.spaces.take t.i) t.css t.d, fun t => x.spaces.length - t.i, ⟨0, none, 0, [], []⟩,
    all_sl ⟨rfl, trivial⟩, rfl, ole_refl _, ⟨Nat.zero_le _, FInv.nil _ _⟩, loopOK (fun _ => ⟨⟨trivial, rfl⟩, trivial⟩) (fun _ => rfl) (fun _ => rfl), ?_⟩
  rintro ⟨i, A, c, d, css⟩ W1 l1 ⟨hin, hF⟩ fr
  dsimp only at hin hF
  refine ⟨rfl, ?_⟩
  apply br_split
  · intro h1
    have hqi : (i : Int) < x.spaces.length := h1
    obtain ⟨pc, rfl, s, ds, hx, hcl, ⟨rv, hds, hR⟩, _, hall⟩ := hS.at SpR.mono l1 (j := i) ⟨by omega, hqi⟩
    have hx : x.spaces[i]? = some s := hx
    obtain ⟨hb4, hb5⟩ := hb3 s (List.mem_of_getElem? hx)
    obtain ⟨a3, c3, rfl, _, hc3⟩ := hR.form
    subst hds
    obtain ⟨nm, hnm⟩ : ∃ nm, s.name = nm := ⟨_, rfl⟩
    rw [hnm] at hall
    refine ⟨⟨by omega, hqi⟩, pc, rfl, [strV nm, .slice a3 s.rels.length c3], rfl, hall.o, ?_⟩
    refine ⟨FwR, fun t => [(22, .v (.int .i64 t.k))], fun t => [[.v (.slice (some pc) x.spaces.length c1), .v (.slice a2 x.scopes.length c2)], [.v nilS, .v nilS], [.v (.slice A i c), .v nilS], [.v (strV nm), .v (.slice a3 s.rels.length c3)], [.v (strV nm), .v (.slice t.A t.k t.c)]], fun t => spO A i c css :: relO t.A t.k t.c t.rcs :: d, fun t W' => t.k ≤ s.rels.length ∧ LR RelR 3 W' (s.rels.take t.k) t.rcs, fun t => s.rels.length - t.k, ⟨0, none, 0, []⟩,
      all_sl ⟨rfl, trivial⟩, rfl, ole_ins 88 3, ⟨Nat.zero_le _, trivial⟩, loopOK (fun _ => ⟨⟨trivial, rfl⟩, trivial⟩) (fun _ => rfl) (fun _ => rfl), ?_⟩
    rintro ⟨k, Ar, cr, rcs⟩ W5 l5 ⟨hkn, hL⟩ fr2
    dsimp only at hkn hL
    refine ⟨rfl, ?_⟩
    apply br_split
    · intro h2
      have hqk : (k : Int) < s.rels.length := h2
      obtain ⟨pd, rfl, r, es, hy, hcl2, ⟨tv, nv, hes, hT, hN⟩, _, hrd2⟩ := hR.at RelR.mono l5 (j := k) ⟨by omega, hqk⟩
      have hy : s.rels[k]? = some r := hy
      obtain ⟨hb6, hb7⟩ := hb5 r (List.mem_of_getElem? hy)
      obtain ⟨a4, c4, rfl, hc4, hc4'⟩ := hT.form
      obtain ⟨a5, c5, rfl, hc5, hc5'⟩ := hN.form
      subst hes
      obtain ⟨rn, hrn⟩ : ∃ nm, r.name = nm := ⟨_, rfl⟩
      rw [hrn] at hrd2
      refine ⟨⟨by omega, hqk⟩, pd, rfl, [strV rn, .slice a4 r.types.length c4, .slice a5 r.nodes.length c5], rfl, hrd2.o, ?_⟩
      refine call_v rfl (fun W' lw => clonet_x r.types _ W' hb6 (hT.mono lw)) (fun W6 v W7 l6 l7 hv => ?_)
      obtain ⟨tA, tc, rfl, _, _⟩ := hv.form
      refine call_v rfl (fun W' lw => clonen_x r.nodes _ W' hb7 (hN.mono (l6.trans (l7.trans lw)))) (fun W8 v W9 l8 l9 hw => ?_)
      obtain ⟨nA, nc, rfl, _, _⟩ := hw.form
      refine ⟨rfl, .inl ?_⟩
      intro bd Wd ld hrd
      refine ⟨1, _, [strV rn, .slice tA r.types.length tc, .slice nA r.nodes.length nc], rfl, rfl, rfl, rfl, rfl, ?_, fun _ => ⟨_, rfl, hrd.o⟩, by show k + 1 ≤ maxLen; omega, by show (k + 1) * 64 ≤ 140737488355328; omega, rfl, @fun Ae ce _ => ?_⟩
      · intro u hu
        simp only [List.mem_cons, List.not_mem_nil, or_false] at hu
        rcases hu with rfl | rfl | rfl <;> rfl
      refine ⟨rfl, _, (i64_in ((k : Int) + 1) ⟨by omega, by omega⟩).symm, ⟨k + 1, Ae, ce, rcs ++ [[strV rn, .slice tA r.types.length tc, .slice nA r.nodes.length nc]]⟩, all_sl ⟨rfl, trivial⟩, rfl, ole_eq ?_, ⟨by dsimp only; omega, ?_⟩, by dsimp only; omega⟩
      · have : (rcs ++ [[strV rn, .slice tA r.types.length tc, .slice nA r.nodes.length nc]]).flatten = rcs.flatten ++ [strV rn, .slice tA r.types.length tc, .slice nA r.nodes.length nc] := by simp
        unfold relO
        dsimp only
        rw [this]
        rfl
      · have : s.rels.take (k + 1) = s.rels.take k ++ [r] := by rw [List.take_add_one, hy]; rfl
        dsimp only
        rw [this]
        have lz := l6.trans (l7.trans (l8.trans (l9.trans ld)))
        have hRR : RelR Wd r [strV rn, .slice tA r.types.length tc, .slice nA r.nodes.length nc] := ⟨_, _, by rw [hrn], hv.mono (l8.trans (l9.trans ld)), hw.mono ld⟩
        exact LR.snoc rfl hRR (hL.mono RelR.mono lz)
    · intro h2
      have hqk : ¬ (k : Int) < s.rels.length := h2
      have ek : k = s.rels.length := by omega
      rw [ek, List.take_length] at hL
      refine ⟨rfl, .inl ?_⟩
      intro bd Wd ld hrd
      refine ⟨0, _, [strV nm, .slice Ar k cr], rfl, rfl, rfl, rfl, rfl, ?_, fun _ => ⟨_, rfl, hrd.o⟩, by show i + 1 ≤ maxLen; omega, by show (i + 1) * 40 ≤ 140737488355328; omega, rfl, @fun Ae ce _ => ?_⟩
      · intro u hu
        simp only [List.mem_cons, List.not_mem_nil, or_false] at hu
        rcases hu with rfl | rfl <;> rfl
      refine ⟨rfl, _, (i64_in ((i : Int) + 1) ⟨by omega, by omega⟩).symm, ⟨i + 1, Ae, ce, relO Ar k cr rcs :: d, css ++ [[strV nm, .slice Ar k cr]]⟩, all_sl ⟨rfl, trivial⟩, rfl, ole_eq ?_, ⟨by dsimp only; omega, ?_⟩, by dsimp only; omega⟩
      · have : (css ++ [[strV nm, .slice Ar k cr]]).flatten = css.flatten ++ [strV nm, .slice Ar k cr] := by simp
        unfold spO
        dsimp only
        rw [this]
        rfl
      · have : x.spaces.take (i + 1) = x.spaces.take i ++ [s] := by rw [List.take_add_one, hx]; rfl
        dsimp only
        rw [this]
        exact (hF.mono (l5.trans ld)).snoc ⟨by rw [hnm]; rfl, ek, rcs, hL.mono RelR.mono ld, rfl⟩
  · intro h1
    have hqi : ¬ (i : Int) < x.spaces.length := h1
    have ei : i = x.spaces.length := by omega
    rw [ei, List.take_length] at hF
    refine call_v rfl (fun W' lw => clones_x x.scopes _ W' hb2 (hK.mono (l1.trans lw))) (fun W6 v W7 l6 l7 hv => ?_)
    obtain ⟨kA, kc, rfl, _, _⟩ := hv.form
    refine RetVC.freezeAll (fun _ hb => hb) fun W3 l3 hall => ?_
    refine ret_plain rfl fun W4 l4 => ?_
    have h1 := hall _ (List.mem_cons_self ..)
    have h3 := hF.lr (l6.trans (l7.trans l3)) fun o ho => hall o (List.mem_cons_of_mem _ ho)
    refine ⟨_, rfl, _, _, rfl, ⟨css, h3.mono SpR.mono l4, ?_⟩, hv.mono (l3.trans l4)⟩
    rw [← ei]; exact SlRead.mono h1 l4
end Go.Proofs.Ytcgbcbdgjhnlaaa

