/- Layer 19 (space), walked: the law's one configuration. -/
import Derived.Test.YtcgbcbdgjhnlaaaGreatXSpaO
import Derived.Test.YtcgbcbdgjhnlaaaGreatXStrN
import Derived.Test.YtcgbcbdgjhnlaaaGreatXCodeZ
import Derived.Lib.SliceRun
namespace Go.Proofs.YtcgbcbdgjhnlaaaGreat
open Go.RowKit

def oneT : List UInt8 := [110, 97, 109, 101, 115, 112, 97, 99, 101, 32, 100, 32, 123, 32, 114, 101, 108, 97, 116, 105, 111, 110, 32, 97, 58, 32, 117, 115, 101, 114, 59, 32, 125]
theorem one_x (W : PW) : CallsX Tryz.prog 22 ⟨[]⟩ [] W fun v W' => ∃ cells, v = .agg ⟨cells⟩ ∧ ConfR W' (ruleP oneT).1 cells := by
  refine pureX hmix Tryz.func22 r22 (by kernel_rfl) [] rfl ?_
  refine call_v rfl (fun W' _ => ruleparse_x oneT W') (fun W2 v W3 _ _ hv => ?_)
  obtain ⟨cells, rfl, hC⟩ := hv
  obtain ⟨c, hc⟩ : ∃ c, (ruleP oneT).1 = c := ⟨_, rfl⟩
  rw [hc] at hC ⊢
  have hC2 := hC
  obtain ⟨sv, kv, rfl, g1, g2⟩ := hC
  obtain ⟨A0, c0, rfl, _, _⟩ := g1.form
  obtain ⟨A1, c1, rfl, _, _⟩ := g2.form
  refine ⟨_, rfl, _, rfl, ?_⟩
  exact ret_plain rfl fun W' l => ⟨_, rfl, ConfR.mono _ _ _ _ l hC2⟩
end Go.Proofs.YtcgbcbdgjhnlaaaGreat

/- Layer 19 (space), walked: slices.Clone, and configurations that are copied. No statement is proved here. -/
namespace Go.Proofs.YtcgbcbdgjhnlaaaGreat
open Go.RowKit

section
variable {P : Program} {B : Base}
/-- A slice compared with nil. -/
theorem raw_slnil {o : Oper} {t te ty : TypeId} {x : Operand} {A : Option Addr} {n c : Nat} {f : Fr} {prot : List Nat} {S : GS} {K : GV → GS → Prop} (ht : P.underlying t = some (.slice te)) (ho : o.op = .binOp .eql t x (.const (.slice none 0 0)) ty) (hx : evG f x = .v (.slice A n c)) (hK : K (.v (.bool A.isNone)) S) : RawVC P B o f prot S K := by
  refine ⟨fun ρ w ev hev hst => ⟨.v (.bool A.isNone), S, ρ, w, .inl ?_, fun _ _ => rfl, Grow.refl _ _, trivial, hst, hK⟩⟩
  obtain ⟨dst, op, type, pos, after, guard⟩ := o
  obtain rfl : op = .binOp .eql t x (.const (.slice none 0 0)) ty := ho
  have e1 : ev x = .slice A n c := by rw [hev, hx]; rfl
  have e2 : ev (.const (.slice none 0 0)) = .slice none 0 0 := by rw [hev]; rfl
  have e3 : (eqGuard .eql t x (.const (.slice none 0 0)) (.slice A n c) (.slice none 0 0)).run P w = .ok () w := rfl
  simp only [execOp, e1, e2, Sem.run_bind, e3, Result.andThen_ok, Lib.run_eql_slice_nil w t te A n c 0 0 ht]
  rfl
/-- An empty slice, made: it is owned. -/
theorem raw_build0 {o : Oper} {t e : TypeId} {i : TypeInfo} {sz : Nat} {f : Fr} {prot : List Nat} {S : GS} {K : GV → GS → Prop} (hu : P.underlying t = some (.slice e)) (hi : P.info? e = some i) (ho : o.op = .buildSlice t 0 ⟨[]⟩)
    (hK : ∀ b : Nat, K (.v (.slice (some ⟨b, 0, none⟩) 0 0)) (S.modO fun O => O ++ [⟨.slice (some ⟨b, 0, none⟩) 0 0, e, sz, 0, []⟩])) : RawVC P B o f prot S K := by
  refine ⟨fun ρ w ev hev hst => ?_⟩
  obtain ⟨dst, op, type, pos, after, guard⟩ := o
  obtain rfl : op = .buildSlice t 0 ⟨[]⟩ := ho
  obtain ⟨σ, O, W⟩ := S
  have hrun : (Instr.buildSlice t 0 #[]).run P w = .ok (.slice (some ⟨w.heap.size, 0, none⟩) 0 0) (w.alloc (.cells #[] e)) := by
    have h0 : ∀ f : Nat → Value, Array.map f (Array.range 0) = #[] := fun f => Array.eq_empty_of_size_eq_zero (by simp)
    simp [Instr.buildSlice, run_underlying hu, sizeOf, typeInfo, hi, newRow, Instr.fill, h0]
  have hok : (execOp ev ⟨dst, .buildSlice t 0 ⟨[]⟩, type, pos, after, guard⟩).run P w = .ok (.value (.slice (some ⟨w.heap.size, 0, none⟩) 0 0)) (w.alloc (.cells #[] e)) := by
    simp only [execOp, Sem.run_bind]
    rw [show ((⟨[]⟩ : Array (Nat × Operand)).map fun (x : Nat × Operand) => (x.1, ev x.2)) = #[] from by simp, hrun]
    rfl
  have hown : (w.alloc (.cells #[] e)).ownsRow 0 e sz (.slice (some ⟨w.heap.size, 0, none⟩) 0 0) 0 [] :=
    ⟨by simp, .inr ⟨w.heap.size, 0, _, rfl, Nat.zero_le _, heap_alloc_new w _, Nat.le_refl _, Nat.zero_le _, by simp, by simp⟩⟩
  exact ⟨.v _, ⟨σ, O ++ [_], W⟩, ρ, _, .inl hok, fun _ _ => rfl, ⟨Nat.le_refl _, PW.Le.refl _, ⟨fun _ _ => rfl, fun _ i o h => by show (O ++ [_])[i]? = _; rw [List.getElem?_append_left (List.getElem?_eq_some_iff.1 h).1]; exact h⟩⟩, trivial, hst.newOwn (o := ⟨.slice (some ⟨w.heap.size, 0, none⟩) 0 0, e, sz, 0, []⟩) hown rfl, hK _⟩

/-- The code of slices.Clone. -/
@[reducible] def cloneC (t e sz bytes : Nat) : MC :=
   (.seq
    (.ops [i_ 2 (.mv (.const (.slice none 0 0)))])
    (.seq
     (.seq
      (.ops [i_ 3 (.mv (T 0)),
        i_ 4 (.raw ⟨(some 4), (.binOp .eql t (T 3) (.const (.slice none 0 0)) t), 4, "slices.go:357", ⟨[⟨0, .data⟩]⟩, none⟩)])
      (.cond (T 4)
       (.seq
        (.ops [i_ 2 (.mv (.const (.slice none 0 0)))])
        .ret)
       .skip))
     (.seq
      (.ops [i_ 5 (.raw ⟨(some 5), (.buildSlice t 0 ⟨[]⟩), t, "slices.go:362", ⟨[]⟩, none⟩),
        i_ 6 (.mv (T 0)),
        i_ 7 (.append e sz bytes (T 5) (T 6)),
        i_ 2 (.mv (T 7))])
      .ret)))
theorem clone_x {fid : FuncId} {fn : Func} {t e sz bytes : Nat} {i : TypeInfo} (hmix : P.follows .mixedOrders = true) (hu : P.underlying t = some (.slice e)) (hi : P.info? e = some i) (hf : P.funcs[fid]? = some fn) (hm : resF P fn = some ⟨8, [.tmp 2], cloneC t e sz bytes⟩) (hname : (fn.name == "runtime.NumGoroutine") = false)
    {W : PW} {v : Value} {n : Nat} {cs : List Value} (hs : SlRead W v n cs) (hone : ∀ u ∈ cs, u.oneCell' = true) (hl : cs.length = n * sz) (hn : n ≤ 100000) (hb : bytes ≤ 1000) : CallsX P fid ⟨[v]⟩ [] W fun u W' => SlRead W' u n cs := by
  obtain ⟨A, c, rfl, hnc, hcm, hr⟩ := hs
  have hmax := maxLen_big
  refine pureX hmix hf hm hname [.slice A n c] rfl ?_
  refine raw_slnil hu rfl rfl ?_
  cases A with
  | none =>
    have h0 : n = 0 := by
      rcases Nat.eq_zero_or_pos n with h | h
      · exact h
      · obtain ⟨a, ha, _⟩ := hr h; cases ha
    subst h0
    have hcs : cs = [] := List.eq_nil_of_length_eq_zero (by rw [hl, Nat.zero_mul])
    subst hcs
    exact ret_plain rfl fun W' _ => SlRead.nil W' _
  | some a =>
    refine raw_build0 (sz := sz) hu hi rfl fun b => ?_
    refine ⟨0, _, cs, rfl, rfl, rfl, rfl, hl, hone, fun hp => ?_, by show 0 + n ≤ maxLen; omega, ?_, rfl, @fun A' c' _ => ?_⟩
    · obtain ⟨a', ha, hrd⟩ := hr hp
      exact ⟨a', ha, hrd.o⟩
    · show (0 + n) * bytes ≤ 140737488355328
      have : (0 + n) * bytes ≤ 100000 * 1000 := Nat.mul_le_mul (by omega) hb
      omega
    · refine RetVC.freeze (i := 0) (fun _ hb => hb) rfl fun W3 l3 hfr => ?_
      refine ret_plain rfl fun W4 l4 => ?_
      have h1 := hfr.mono l4
      have h2 : SlRead W4 (.slice A' (0 + n) c') (0 + n) ([] ++ cs) := h1
      rw [Nat.zero_add, List.nil_append] at h2
      show SlRead W4 (.slice A' (0 + n) c') n cs
      rw [Nat.zero_add]
      exact h2
end

theorem info_some (e : TypeId) (h : (Tryz.prog.info? e).isSome = true) : ∃ i, Tryz.prog.info? e = some i := Option.isSome_iff_exists.1 h
def BdR (r : RelS) : Prop := r.types.length ≤ 1000 ∧ r.nodes.length ≤ 1000
def BdC (c : ConfS) : Prop := c.spaces.length ≤ 1000 ∧ c.scopes.length ≤ 1000 ∧ ∀ s ∈ c.spaces, s.rels.length ≤ 1000 ∧ ∀ r ∈ s.rels, BdR r

theorem one_flat {α : Type} {f : α → List Value} (hf : ∀ x, ∀ u ∈ f x, u.oneCell' = true) (xs : List α) : ∀ u ∈ (xs.map f).flatten, u.oneCell' = true := by
  intro u hu
  obtain ⟨l, hl, hu⟩ := List.mem_flatten.1 hu
  obtain ⟨x, _, rfl⟩ := List.mem_map.1 hl
  exact hf x u hu
theorem len_flat {α : Type} {f : α → List Value} {sz : Nat} (hf : ∀ x, (f x).length = sz) : ∀ xs : List α, ((xs.map f).flatten).length = xs.length * sz
  | [] => by simp
  | x :: r => by rw [List.map_cons, List.flatten_cons, List.length_append, hf, len_flat hf r, List.length_cons, Nat.succ_mul]; omega
theorem clonet_x (l : List TypS) (v : Value) (W : PW) (hn : l.length ≤ 1000) (h : RP typC W v l) : CallsX Tryz.prog 37 ⟨[v]⟩ [] W fun u W' => RP typC W' u l :=
  clone_x (t := 71) (e := 97) (sz := 2) (bytes := 32) hmix Tryz.underlying71 (info_some 97 (by kernel_rfl)).choose_spec Tryz.func37 r37 (by kernel_rfl) h (one_flat typC_one l) (len_flat (f := typC) (sz := 2) (fun _ => rfl) l) (by omega) (by decide)
theorem clonen_x (l : List NodeS) (v : Value) (W : PW) (hn : l.length ≤ 1000) (h : RP nodeC W v l) : CallsX Tryz.prog 38 ⟨[v]⟩ [] W fun u W' => RP nodeC W' u l :=
  clone_x (t := 72) (e := 100) (sz := 5) (bytes := 56) hmix Tryz.underlying72 (info_some 100 (by kernel_rfl)).choose_spec Tryz.func38 r38 (by kernel_rfl) h (one_flat nodeC_one l) (len_flat (f := nodeC) (sz := 5) (fun _ => rfl) l) (by omega) (by decide)
theorem clones_x (l : List ScopeS) (v : Value) (W : PW) (hn : l.length ≤ 1000) (h : RP scopeC W v l) : CallsX Tryz.prog 39 ⟨[v]⟩ [] W fun u W' => RP scopeC W' u l :=
  clone_x (t := 31) (e := 78) (sz := 4) (bytes := 64) hmix Tryz.underlying31 (info_some 78 (by kernel_rfl)).choose_spec Tryz.func39 r39 (by kernel_rfl) h (one_flat scopeC_one l) (len_flat (f := scopeC) (sz := 4) (fun _ => rfl) l) (by omega) (by decide)

set_option maxHeartbeats 8000000 in
theorem copied_x (x : ConfS) (cs : List Value) (W : PW) (hB : BdC x) (h : ConfR W x cs) : CallsX Tryz.prog 23 ⟨[.agg ⟨cs⟩]⟩ [] W fun v W' => ∃ cells, v = .agg ⟨cells⟩ ∧ ConfR W' x cells := by
  obtain ⟨hb1, hb2, hb3⟩ := hB
  obtain ⟨sv, kv, rfl, hS, hK⟩ := h
  obtain ⟨a1, c1, rfl, _, hc1⟩ := hS.form
  obtain ⟨a2, c2, rfl, _, hc2⟩ := hK.form
  have hmax := maxLen_big
  refine pureNX hmix Tryz.func23 r23 (by kernel_rfl) [nilO 69 2] rfl [.agg ⟨[.slice a1 x.spaces.length c1, .slice a2 x.scopes.length c2]⟩] rfl ?_
  refine ⟨FwS, fun t => [(12, .v (.int .i64 t.i))], fun t => [[.v (.slice a1 x.spaces.length c1), .v (.slice a2 x.scopes.length c2)], [.v nilS, .v nilS], [.v (.slice t.A t.i t.c), .v nilS]], fun t => spO t.A t.i t.c t.css :: t.d, fun t W' => t.i ≤ x.spaces.length ∧ FInv W' (x.spaces.take t.i) t.css t.d, fun t => x.spaces.length - t.i, ⟨0, none, 0, [], []⟩,
    all_sl ⟨rfl, trivial⟩, rfl, ole_refl _, ⟨Nat.zero_le _, FInv.nil _ _⟩, loopOK (fun _ => ⟨⟨trivial, rfl⟩, trivial⟩) (fun _ => rfl) (fun _ => rfl), ?_⟩
  rintro ⟨i, A, c, d, css⟩ W1 l1 ⟨hin, hF⟩ fr
  dsimp only at hin hF
  refine ⟨rfl, ?_⟩
  apply br_split
  · intro h1
    have hqi : (i : Int) < x.spaces.length := h1
    obtain ⟨pc, rfl, s, ds, hx, hcl, ⟨rv, hds, hR⟩, _, hall⟩ := hS.at SpR.mono l1 (j := i) ⟨by omega, hqi⟩
    have hx : x.spaces[i]? = some s := hx
    obtain ⟨hb4, hb5⟩ := hb3 s (List.mem_of_getElem? hx)
    obtain ⟨a3, c3, rfl, _, hc3⟩ := hR.form
    subst hds
    obtain ⟨nm, hnm⟩ : ∃ nm, s.name = nm := ⟨_, rfl⟩
    rw [hnm] at hall
    refine ⟨⟨by omega, hqi⟩, pc, rfl, [strV nm, .slice a3 s.rels.length c3], rfl, hall.o, ?_⟩
    refine ⟨FwR, fun t => [(22, .v (.int .i64 t.k))], fun t => [[.v (.slice (some pc) x.spaces.length c1), .v (.slice a2 x.scopes.length c2)], [.v nilS, .v nilS], [.v (.slice A i c), .v nilS], [.v (strV nm), .v (.slice a3 s.rels.length c3)], [.v (strV nm), .v (.slice t.A t.k t.c)]], fun t => spO A i c css :: relO t.A t.k t.c t.rcs :: d, fun t W' => t.k ≤ s.rels.length ∧ LR RelR 3 W' (s.rels.take t.k) t.rcs, fun t => s.rels.length - t.k, ⟨0, none, 0, []⟩,
      all_sl ⟨rfl, trivial⟩, rfl, ole_ins 74 3, ⟨Nat.zero_le _, trivial⟩, loopOK (fun _ => ⟨⟨trivial, rfl⟩, trivial⟩) (fun _ => rfl) (fun _ => rfl), ?_⟩
    rintro ⟨k, Ar, cr, rcs⟩ W5 l5 ⟨hkn, hL⟩ fr2
    dsimp only at hkn hL
    refine ⟨rfl, ?_⟩
    apply br_split
    · intro h2
      have hqk : (k : Int) < s.rels.length := h2
      obtain ⟨pd, rfl, r, es, hy, hcl2, ⟨tv, nv, hes, hT, hN⟩, _, hrd2⟩ := hR.at RelR.mono l5 (j := k) ⟨by omega, hqk⟩
      have hy : s.rels[k]? = some r := hy
      obtain ⟨hb6, hb7⟩ := hb5 r (List.mem_of_getElem? hy)
      obtain ⟨a4, c4, rfl, hc4, hc4'⟩ := hT.form
      obtain ⟨a5, c5, rfl, hc5, hc5'⟩ := hN.form
      subst hes
      obtain ⟨rn, hrn⟩ : ∃ nm, r.name = nm := ⟨_, rfl⟩
      rw [hrn] at hrd2
      refine ⟨⟨by omega, hqk⟩, pd, rfl, [strV rn, .slice a4 r.types.length c4, .slice a5 r.nodes.length c5], rfl, hrd2.o, ?_⟩
      refine call_v rfl (fun W' lw => clonet_x r.types _ W' hb6 (hT.mono lw)) (fun W6 v W7 l6 l7 hv => ?_)
      obtain ⟨tA, tc, rfl, _, _⟩ := hv.form
      refine call_v rfl (fun W' lw => clonen_x r.nodes _ W' hb7 (hN.mono (l6.trans (l7.trans lw)))) (fun W8 v W9 l8 l9 hw => ?_)
      obtain ⟨nA, nc, rfl, _, _⟩ := hw.form
      refine ⟨rfl, .inl ?_⟩
      intro bd Wd ld hrd
      refine ⟨1, _, [strV rn, .slice tA r.types.length tc, .slice nA r.nodes.length nc], rfl, rfl, rfl, rfl, rfl, ?_, fun _ => ⟨_, rfl, hrd.o⟩, by show k + 1 ≤ maxLen; omega, by show (k + 1) * 64 ≤ 140737488355328; omega, rfl, @fun Ae ce _ => ?_⟩
      · intro u hu
        simp only [List.mem_cons, List.not_mem_nil, or_false] at hu
        rcases hu with rfl | rfl | rfl <;> rfl
      refine ⟨rfl, _, (i64_in ((k : Int) + 1) ⟨by omega, by omega⟩).symm, ⟨k + 1, Ae, ce, rcs ++ [[strV rn, .slice tA r.types.length tc, .slice nA r.nodes.length nc]]⟩, all_sl ⟨rfl, trivial⟩, rfl, ole_eq ?_, ⟨by dsimp only; omega, ?_⟩, by dsimp only; omega⟩
      · have : (rcs ++ [[strV rn, .slice tA r.types.length tc, .slice nA r.nodes.length nc]]).flatten = rcs.flatten ++ [strV rn, .slice tA r.types.length tc, .slice nA r.nodes.length nc] := by simp
        unfold relO
        dsimp only
        rw [this]
        rfl
      · have : s.rels.take (k + 1) = s.rels.take k ++ [r] := by rw [List.take_add_one, hy]; rfl
        dsimp only
        rw [this]
        have lz := l6.trans (l7.trans (l8.trans (l9.trans ld)))
        have hRR : RelR Wd r [strV rn, .slice tA r.types.length tc, .slice nA r.nodes.length nc] := ⟨_, _, by rw [hrn], hv.mono (l8.trans (l9.trans ld)), hw.mono ld⟩
        exact LR.snoc rfl hRR (hL.mono RelR.mono lz)
    · intro h2
      have hqk : ¬ (k : Int) < s.rels.length := h2
      have ek : k = s.rels.length := by omega
      rw [ek, List.take_length] at hL
      refine ⟨rfl, .inl ?_⟩
      intro bd Wd ld hrd
      refine ⟨0, _, [strV nm, .slice Ar k cr], rfl, rfl, rfl, rfl, rfl, ?_, fun _ => ⟨_, rfl, hrd.o⟩, by show i + 1 ≤ maxLen; omega, by show (i + 1) * 40 ≤ 140737488355328; omega, rfl, @fun Ae ce _ => ?_⟩
      · intro u hu
        simp only [List.mem_cons, List.not_mem_nil, or_false] at hu
        rcases hu with rfl | rfl <;> rfl
      refine ⟨rfl, _, (i64_in ((i : Int) + 1) ⟨by omega, by omega⟩).symm, ⟨i + 1, Ae, ce, relO Ar k cr rcs :: d, css ++ [[strV nm, .slice Ar k cr]]⟩, all_sl ⟨rfl, trivial⟩, rfl, ole_eq ?_, ⟨by dsimp only; omega, ?_⟩, by dsimp only; omega⟩
      · have : (css ++ [[strV nm, .slice Ar k cr]]).flatten = css.flatten ++ [strV nm, .slice Ar k cr] := by simp
        unfold spO
        dsimp only
        rw [this]
        rfl
      · have : x.spaces.take (i + 1) = x.spaces.take i ++ [s] := by rw [List.take_add_one, hx]; rfl
        dsimp only
        rw [this]
        exact (hF.mono (l5.trans ld)).snoc ⟨by rw [hnm]; rfl, ek, rcs, hL.mono RelR.mono ld, rfl⟩
  · intro h1
    have hqi : ¬ (i : Int) < x.spaces.length := h1
    have ei : i = x.spaces.length := by omega
    rw [ei, List.take_length] at hF
    refine call_v rfl (fun W' lw => clones_x x.scopes _ W' hb2 (hK.mono (l1.trans lw))) (fun W6 v W7 l6 l7 hv => ?_)
    obtain ⟨kA, kc, rfl, _, _⟩ := hv.form
    refine RetVC.freezeAll (fun _ hb => hb) fun W3 l3 hall => ?_
    refine ret_plain rfl fun W4 l4 => ?_
    have h1 := hall _ (List.mem_cons_self ..)
    have h3 := hF.lr (l6.trans (l7.trans l3)) fun o ho => hall o (List.mem_cons_of_mem _ ho)
    refine ⟨_, rfl, _, _, rfl, ⟨css, h3.mono SpR.mono l4, ?_⟩, hv.mono (l3.trans l4)⟩
    rw [← ei]; exact SlRead.mono h1 l4
end Go.Proofs.YtcgbcbdgjhnlaaaGreat

/- Layer 19 (space), walked: a history's memory; Made, last, At, Gone. No statement is proved here. -/
namespace Go.Proofs.YtcgbcbdgjhnlaaaGreat
open Go.RowKit

structure EntS where
  rev : Int
  c : ConfS
  num : Num
def entR (W : PW) (e : EntS) (cs : List Value) : Prop := ∃ sv kv nv, cs = [.int .u64 e.rev, sv, kv, nv] ∧ ConfR W e.c [sv, kv] ∧ NumR W nv e.num
theorem NumR.mono {W W' : PW} {v : Value} {n : Num} (h : NumR W v n) (l : W.Le W') : NumR W' v n := RL.mono (fun _ _ _ _ l h => let ⟨u, e, h⟩ := h; ⟨u, e, h.mono l⟩) l h
theorem entR.mono (W W' : PW) (e : EntS) (cs : List Value) (l : W.Le W') (h : entR W e cs) : entR W' e cs := let ⟨sv, kv, nv, e1, h1, h2⟩ := h; ⟨sv, kv, nv, e1, ConfR.mono _ _ _ _ l h1, h2.mono l⟩
theorem ConfR.form {W : PW} {x : ConfS} {cs : List Value} (h : ConfR W x cs) : ∃ a1 c1 a2 c2, cs = [.slice a1 x.spaces.length c1, .slice a2 x.scopes.length c2] := by
  obtain ⟨sv, kv, rfl, hS, hK⟩ := h
  obtain ⟨a1, c1, rfl, _, _⟩ := hS.form
  obtain ⟨a2, c2, rfl, _, _⟩ := hK.form
  exact ⟨_, _, _, _, rfl⟩
theorem entR.form {W : PW} {e : EntS} {cs : List Value} (h : entR W e cs) : ∃ a1 n1 c1 a2 n2 c2 a3 n3 c3, cs = [.int .u64 e.rev, .slice a1 n1 c1, .slice a2 n2 c2, .slice a3 n3 c3] ∧ ConfR W e.c [.slice a1 n1 c1, .slice a2 n2 c2] ∧ NumR W (.slice a3 n3 c3) e.num := by
  obtain ⟨sv, kv, nv, rfl, hC, hN⟩ := h
  obtain ⟨a1, c1, a2, c2, e⟩ := hC.form
  simp only [List.cons.injEq, and_true] at e
  obtain ⟨rfl, rfl⟩ := e
  obtain ⟨a3, c3, rfl, _, _⟩ := RL.form hN
  exact ⟨_, _, _, _, _, _, _, _, _, rfl, hC, hN⟩
def histV (v : Value) (gone : Int) : List Value := [.bool true, v, .int .i64 gone]
def histO (A : Option Addr) (n c : Nat) (css : List (List Value)) : Own := ⟨.slice A n c, 66, 4, n, css.flatten⟩
/-- What a method that is lent a history finds. -/
structure HPre (W : PW) (g : Nat) (A : Option Addr) (c : Nat) (gone : Int) (xs : List EntS) (css : List (List Value)) : Prop where
  own : OwnB W g (histV (.slice A xs.length c) gone)
  ho : OwnS (histO A xs.length c css).v.ownBlock.toList W.w.heap.size W (histO A xs.length c css)
  ne : g ∉ (histO A xs.length c css).v.ownBlock.toList
  lr : LR entR 4 W xs css
/-- What it leaves. -/
structure HPost (o : Own) (n₀ : Nat) (W : PW) (g : Nat) (A : Option Addr) (c : Nat) (gone : Int) (xs : List EntS) (css : List (List Value)) : Prop where
  own : OwnB W g (histV (.slice A xs.length c) gone)
  ho : OwnS o.v.ownBlock.toList n₀ W (histO A xs.length c css)
  lr : LR entR 4 W xs css
theorem own_at {l : List Nat} {n₀ : Nat} {W : PW} {A : Option Addr} {n c : Nat} {css : List (List Value)} (h : OwnS l n₀ W (histO A n c css)) : OwnAt A n ∧ n ≤ c := by
  rcases h.1.2 with ⟨e1, e2⟩ | ⟨g, cap, cur, e, _, _, h1, _⟩
  · simp only [histO, Value.slice.injEq] at e1
    obtain ⟨rfl, rfl, rfl⟩ := e1
    exact ⟨fun h => absurd h (Nat.lt_irrefl 0), Nat.le_refl _⟩
  · simp only [histO, Value.slice.injEq] at e
    obtain ⟨rfl, _, rfl⟩ := e
    exact ⟨fun _ => ⟨g, rfl⟩, h1⟩

/-- An entry of a history that is owned. -/
theorem hist_at {W : PW} {A : Option Addr} {c : Nat} {xs : List EntS} {css : List (List Value)} (hL : LR entR 4 W xs css) (hA : OwnAt A xs.length) {j : Int} (hj : 0 ≤ j ∧ j < xs.length) :
    ∃ b, A = some b ∧ ∃ e a1 n1 c1 a2 n2 c2 a3 n3 c3, xs[j.toNat]? = some e ∧ ConfR W e.c [.slice a1 n1 c1, .slice a2 n2 c2] ∧ NumR W (.slice a3 n3 c3) e.num ∧
      (∀ (S : GS) (i : Nat), S.O[i]? = some (histO A xs.length c css) → RdsO S (b.add (j.toNat * 4)) [.int .u64 e.rev, .slice a1 n1 c1, .slice a2 n2 c2, .slice a3 n3 c3]) ∧
      (∀ (S : GS) (i : Nat), S.O[i]? = some (histO A xs.length c css) → RdO S (((b.add (j.toNat * 4)).add 0).add 0) (.int .u64 e.rev)) ∧
      (∀ (S : GS) (i : Nat), S.O[i]? = some (histO A xs.length c css) → RdsO S (((b.add (j.toNat * 4)).add 0).add 1) [.slice a1 n1 c1, .slice a2 n2 c2]) ∧
      (∀ (S : GS) (i : Nat), S.O[i]? = some (histO A xs.length c css) → RdO S ((b.add (j.toNat * 4)).add 3) (.slice a3 n3 c3)) := by
  obtain ⟨h1, h2⟩ := hj
  have hlt : j.toNat < xs.length := by omega
  obtain ⟨g, rfl⟩ := hA (by omega)
  obtain ⟨e, cc, hx, _, hR, hcs⟩ := hL.get hlt
  obtain ⟨a1, n1, c1, a2, n2, c2, a3, n3, c3, rfl, hC, hN⟩ := hR.form
  have key : ∀ (S : GS) (i : Nat), S.O[i]? = some (histO (some ⟨g, 0, none⟩) xs.length c css) → ∀ (off : Nat) (v : Value), [Value.int .u64 e.rev, .slice a1 n1 c1, .slice a2 n2 c2, .slice a3 n3 c3][off]? = some v → RdO S ((⟨g, 0, none⟩ : Addr).add (j.toNat * 4 + off)) v :=
    fun S i hi off v hv => .inr ⟨i, _, _, _, _, _, hi, rfl, rfl, hcs off v hv⟩
  refine ⟨_, rfl, e, a1, n1, c1, a2, n2, c2, a3, n3, c3, hx, hC, hN, fun S i hi k v hk => ?_, fun S i hi => ?_, fun S i hi k v hk => ?_, fun S i hi => ?_⟩
  · rw [Addr.add_add]; exact key S i hi k v hk
  · rw [Addr.add_add, Addr.add_add]; exact key S i hi 0 _ rfl
  · rw [Addr.add_add, Addr.add_add, Addr.add_add, Nat.zero_add]
    refine key S i hi (1 + k) v ?_
    match k, hk with
    | 0, hk => exact hk
    | 1, hk => exact hk
    | k + 2, hk => simp at hk
  · rw [Addr.add_add]; exact key S i hi 3 _ rfl

def lastI (rev : Int) : List EntS → Nat → Int → Int
  | [], _, p => p
  | e :: r, i, p => lastI rev r (i + 1) (if e.rev ≤ rev then (i : Int) else p)
theorem drop_cons {α : Type} {l : List α} {i : Nat} {x : α} (h : l[i]? = some x) : l.drop i = x :: l.drop (i + 1) := by
  obtain ⟨h1, h2⟩ := List.getElem?_eq_some_iff.1 h
  rw [List.drop_eq_getElem_cons h1, h2]
theorem lastI_step {rev : Int} {xs : List EntS} {i : Nat} {p : Int} {e : EntS} (h : xs[i]? = some e) : lastI rev (xs.drop i) i p = lastI rev (xs.drop (i + 1)) (i + 1) (if e.rev ≤ rev then (i : Int) else p) := by
  rw [drop_cons h]; rfl
theorem lastI_in {rev : Int} : ∀ (xs : List EntS) (i : Nat) (p : Int), lastI rev xs i p = p ∨ ∃ (j : Nat) (e : EntS), xs[j]? = some e ∧ e.rev ≤ rev ∧ lastI rev xs i p = ((i + j : Nat) : Int)
  | [], _, _ => .inl rfl
  | e :: r, i, p => by
    by_cases h : e.rev ≤ rev
    · have e1 : lastI rev (e :: r) i p = lastI rev r (i + 1) i := by show lastI rev r (i + 1) (if e.rev ≤ rev then (i : Int) else p) = _; rw [if_pos h]
      rcases lastI_in r (i + 1) i with h2 | ⟨j, e', h2, h3, h4⟩
      · exact .inr ⟨0, e, rfl, h, by rw [e1, h2]; rfl⟩
      · exact .inr ⟨j + 1, e', h2, h3, by rw [e1, h4]; congr 1; omega⟩
    · have e1 : lastI rev (e :: r) i p = lastI rev r (i + 1) p := by show lastI rev r (i + 1) (if e.rev ≤ rev then (i : Int) else p) = _; rw [if_neg h]
      rcases lastI_in r (i + 1) p with h2 | ⟨j, e', h2, h3, h4⟩
      · exact .inl (by rw [e1, h2])
      · exact .inr ⟨j + 1, e', h2, h3, by rw [e1, h4]; congr 1; omega⟩
def atS (xs : List EntS) (gone rev : Int) : ConfS × Int :=
  match lastI rev xs 0 (-1) with
  | .ofNat i => match xs[i]? with | some e => (e.c, gone + i + 1) | none => (noConf, 0)
  | .negSucc _ => (noConf, 0)
theorem atS_no {xs : List EntS} {gone rev : Int} (h : lastI rev xs 0 (-1) < 0) : atS xs gone rev = (noConf, 0) := by
  unfold atS
  split
  · rename_i i hi; rw [hi] at h; exact absurd h (by simp)
  · rfl
theorem atS_yes {xs : List EntS} {gone rev : Int} {i : Nat} {e : EntS} (h : lastI rev xs 0 (-1) = i) (he : xs[i]? = some e) : atS xs gone rev = (e.c, gone + i + 1) := by
  unfold atS
  rw [show lastI rev xs 0 (-1) = Int.ofNat i from h]
  dsimp only
  rw [he]

theorem made_x (W : PW) (g : Nat) (b : Bool) (y z : Value) (h : OwnB W g [.bool b, y, z]) : CallsX Tryz.prog 18 ⟨[.pointer (some ⟨g, 0, none⟩)]⟩ [g] W fun v W' => v = .bool b ∧ OwnB W' g [.bool b, y, z] := by
  refine methX hmix Tryz.func18 r18 (by kernel_rfl) h [] rfl ?_
  exact ret_m1 rfl rfl rfl rfl fun W' _ h1 => ⟨rfl, h1⟩
section
variable {B : Base}
theorem call_made {S : GS} {k : Nat} {cs : List PV} {b : Bool} {y z : Value} {prot : List Nat} {K : GV → GS → Prop} (hk : S.σ[k]? = some cs) (hx : plainCells cs = some [.bool b, y, z]) (hn : prot.contains (k + 1) = false)
    (hK : ∀ W', S.W.Le W' → K (.v (.bool b)) ((S.setW W').modσ fun σ => σ.set k ([Value.bool b, y, z].map .v))) : CallVC Tryz.prog B 18 [.lp k 0] prot S K :=
  call_m1 hk hx rfl hn k18 fun g W1 l1 how => (made_x W1 g b y z how).mono fun _ W2 ⟨hv, ho⟩ l2 => ⟨_, ho, hv ▸ hK W2 (l1.trans l2)⟩
end

set_option maxHeartbeats 4000000 in
theorem last_x (xs : List EntS) (css : List (List Value)) (A : Option Addr) (c : Nat) (gone rev : Int) (g : Nat) (W : PW) (hp : HPre W g A c gone xs css) (hn : xs.length ≤ 1000) :
    CallsX Tryz.prog 24 ⟨[.pointer (some ⟨g, 0, none⟩), .int .u64 rev]⟩ (g :: (histO A xs.length c css).v.ownBlock.toList) W fun v W' => v = .int .i64 (lastI rev xs 0 (-1)) ∧ OwnB W' g (histV (.slice A xs.length c) gone) ∧ OwnS (histO A xs.length c css).v.ownBlock.toList W.w.heap.size W' (histO A xs.length c css) := by
  obtain ⟨hown, ho, hne, hL⟩ := hp
  obtain ⟨hat, _⟩ := own_at ho
  refine methOX (o := histO A xs.length c css) hmix Tryz.func24 r24 (by kernel_rfl) hown ho hne [.int .u64 rev] rfl ?_
  refine call_made rfl rfl rfl (fun W1 l1 => ?_)
  refine ⟨Nat × Int, fun t => [(5, .v (.int .i64 t.2)), (16, .v (.int .i64 t.1))], fun _ => [(histV (.slice A xs.length c) gone).map .v], fun _ => [histO A xs.length c css], fun t _ => t.1 ≤ xs.length ∧ lastI rev xs 0 (-1) = lastI rev (xs.drop t.1) t.1 t.2, fun t => xs.length - t.1, (0, -1),
    all_sl ⟨rfl, rfl, trivial⟩, rfl, ole_refl _, ⟨Nat.zero_le _, rfl⟩, loopOK (fun _ => ⟨⟨trivial, rfl⟩, ⟨trivial, rfl⟩, trivial⟩) (fun _ => rfl) (fun _ => rfl), ?_⟩
  rintro ⟨i, p⟩ W2 l2 ⟨hi, hla⟩ fr
  dsimp only at hi hla
  refine ⟨rfl, ?_⟩
  apply br_split
  · intro h1
    have hq : (i : Int) < xs.length := h1
    obtain ⟨b, rfl, e, a1, n1, c1, a2, n2, c2, a3, n3, c3, hx, _, _, hrd, _⟩ := hist_at (c := c) hL hat (j := i) ⟨by omega, hq⟩
    have hx : xs[i]? = some e := hx
    rw [lastI_step hx] at hla
    refine ⟨⟨by omega, hq⟩, b, rfl, [.int .u64 e.rev, .slice a1 n1 c1, .slice a2 n2 c2, .slice a3 n3 c3], rfl, hrd _ 0 rfl, ?_⟩
    obtain ⟨er, her⟩ : ∃ er, e.rev = er := ⟨_, rfl⟩
    rw [her] at hla ⊢
    refine ⟨rfl, ?_⟩
    apply br_split
    · intro h2
      have h2 : er ≤ rev := h2
      rw [if_pos h2] at hla
      exact ⟨rfl, _, (i64_in ((i : Int) + 1) ⟨by omega, by omega⟩).symm, (i + 1, (i : Int)), all_sl ⟨rfl, rfl, trivial⟩, rfl, ole_refl _, ⟨by dsimp only; omega, hla⟩, by dsimp only; omega⟩
    · intro h2
      have h2 : ¬ er ≤ rev := h2
      rw [if_neg h2] at hla
      exact ⟨rfl, _, (i64_in ((i : Int) + 1) ⟨by omega, by omega⟩).symm, (i + 1, p), all_sl ⟨rfl, rfl, trivial⟩, rfl, ole_refl _, ⟨by dsimp only; omega, hla⟩, by dsimp only; omega⟩
  · intro h1
    have hq : ¬ (i : Int) < xs.length := h1
    have ei : i = xs.length := by omega
    rw [ei, List.drop_length] at hla
    have hla : lastI rev xs 0 (-1) = p := hla
    exact ret_m1own (i := 0) rfl rfl rfl rfl rfl rfl fun W' _ h1 h2 => ⟨by rw [hla], h1, h2⟩

set_option maxHeartbeats 4000000 in
theorem at_x (xs : List EntS) (css : List (List Value)) (A : Option Addr) (c : Nat) (gone rev : Int) (g : Nat) (W : PW) (hp : HPre W g A c gone xs css) (hn : xs.length ≤ 1000) (hg : 0 ≤ gone ∧ gone ≤ 1000000) (hB : ∀ e ∈ xs, BdC e.c) :
    CallsX Tryz.prog 11 ⟨[.pointer (some ⟨g, 0, none⟩), .int .u64 rev]⟩ (g :: (histO A xs.length c css).v.ownBlock.toList) W fun v W' => (∃ cells, v = .tuple ⟨[.agg ⟨cells⟩, .int .i64 (atS xs gone rev).2]⟩ ∧ ConfR W' (atS xs gone rev).1 cells) ∧ HPost (histO A xs.length c css) W.w.heap.size W' g A c gone xs css := by
  have hp0 := hp
  obtain ⟨hown, ho, hne, hL⟩ := hp
  obtain ⟨hat, _⟩ := own_at ho
  refine methOX (o := histO A xs.length c css) hmix Tryz.func11 r11 (by kernel_rfl) hown ho hne [.int .u64 rev] rfl ?_
  refine call_m1O (i := 0) rfl rfl rfl rfl rfl rfl k24 (fun g' W1 l1 how hown1 hne1 => (last_x xs css A c gone rev g' W1 ⟨how, hown1, hne1, hL.mono entR.mono l1⟩ hn).mono fun v W2 ⟨hv, hb2, ho2⟩ l2 => ⟨_, _, hb2, ho2, ?_⟩)
  have l12 := l1.trans l2
  have hL2 := hL.mono entR.mono l12
  obtain ⟨p, hpv, rfl⟩ : ∃ p, lastI rev xs 0 (-1) = p ∧ v = .int .i64 p := ⟨_, rfl, hv⟩
  refine ⟨rfl, ?_⟩
  apply br_split
  · intro h1
    have h1 : p < 0 := h1
    refine ret_m1own (i := 0) rfl rfl rfl rfl rfl rfl fun W' l3 h1' h2' => ⟨⟨[.slice none 0 0, .slice none 0 0], ?_, ?_⟩, h1', h2', hL2.mono entR.mono l3⟩
    · rw [atS_no (by omega)]
    · rw [atS_no (by omega)]; exact ConfR.no W'
  · intro h1
    have h1 : ¬ p < 0 := h1
    rcases lastI_in (rev := rev) xs 0 (-1) with h2 | ⟨j, e0, hx, _, hj⟩
    · omega
    obtain rfl : p = j := by rw [← hpv, hj, Nat.zero_add]
    have hjl : j < xs.length := (List.getElem?_eq_some_iff.1 hx).1
    obtain ⟨b, rfl, e, a1, n1, c1, a2, n2, c2, a3, n3, c3, hx', hC, _, _, _, hrd, _⟩ := hist_at (c := c) hL2 hat (j := j) ⟨by omega, by omega⟩
    have hx' : xs[j]? = some e := hx'
    have hbe := hB e (List.mem_of_getElem? hx')
    have hat := atS_yes (gone := gone) hpv hx'
    obtain ⟨ec, hec⟩ : ∃ ec, e.c = ec := ⟨_, rfl⟩
    rw [hec] at hC hbe hat
    obtain ⟨r1, hr1⟩ : ∃ r : Int, gone + j = r := ⟨_, rfl⟩
    refine ⟨⟨by omega, by omega⟩, b, rfl, [.slice a1 n1 c1, .slice a2 n2 c2], rfl, hrd _ 0 rfl, rfl, r1, ?_, rfl, _, (i64_in (r1 + 1) ⟨by omega, by omega⟩).symm, ?_⟩
    · rw [hr1, i64_in r1 ⟨by omega, by omega⟩]
    refine call_v rfl (fun W' lw => copied_x ec _ W' hbe (ConfR.mono _ _ _ _ lw hC)) (fun W3 v W4 l3 l4 hv => ?_)
    obtain ⟨cells, rfl, hC2⟩ := hv
    obtain ⟨b1, d1, b2, d2, rfl⟩ := hC2.form
    refine ret_m1own (i := 0) rfl rfl rfl rfl rfl rfl fun W' l5 h1' h2' => ⟨⟨[.slice b1 ec.spaces.length d1, .slice b2 ec.scopes.length d2], ?_, ?_⟩, h1', h2', hL2.mono entR.mono (l3.trans (l4.trans l5))⟩
    · rw [hat, hr1]
    · rw [hat]; exact ConfR.mono _ _ _ _ l5 hC2

theorem gone_x (xs : List EntS) (css : List (List Value)) (A : Option Addr) (c : Nat) (gone : Int) (g : Nat) (W : PW) (hp : HPre W g A c gone xs css) :
    CallsX Tryz.prog 9 ⟨[.pointer (some ⟨g, 0, none⟩)]⟩ (g :: (histO A xs.length c css).v.ownBlock.toList) W fun v W' => v = .int .i64 gone ∧ HPost (histO A xs.length c css) W.w.heap.size W' g A c gone xs css := by
  obtain ⟨hown, ho, hne, hL⟩ := hp
  refine methOX (o := histO A xs.length c css) hmix Tryz.func9 r9 (by kernel_rfl) hown ho hne [] rfl ?_
  refine call_made rfl rfl rfl (fun W1 l1 => ?_)
  exact ret_m1own (i := 0) rfl rfl rfl rfl rfl rfl fun W' l2 h1 h2 => ⟨rfl, h1, h2, hL.mono entR.mono (l1.trans l2)⟩
end Go.Proofs.YtcgbcbdgjhnlaaaGreat
