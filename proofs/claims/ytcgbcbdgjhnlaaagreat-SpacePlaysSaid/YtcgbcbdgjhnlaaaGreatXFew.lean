/- Layer 16: a configuration of which no list is too long (the document's Few), walked. -/
import Derived.Test.YtcgbcbdgjhnlaaaGreatXMA
import Derived.Test.YtcgbcbdgjhnlaaaGreatXPH
import Derived.Test.YtcgbcbdgjhnlaaaGreatXCodeZ
namespace Go.Proofs.YtcgbcbdgjhnlaaaGreat
open Go.RowKit

def fewRel (r : RelS) : RelS := ⟨r.name, r.types.take 9, r.nodes.take 66⟩
def fewSp (s : SpaceS) : SpaceS := ⟨s.name.take 40, (s.rels.take 6).map fewRel⟩
def fewC (c : ConfS) : ConfS := ⟨(c.spaces.take 5).map fewSp, c.scopes.take 5⟩

theorem ole_ins {a : Own} {d : List Own} (e : TypeId) (sz : Nat) : OLe (a :: d) (a :: nilO e sz :: d) := by
  unfold OLe
  have : (a :: nilO e sz :: d).filter (fun o => !o.isNil) = (a :: d).filter (fun o => !o.isNil) := by
    simp [List.filter_cons, nilO, Own.isNil]
  rw [this]; exact List.filter_sublist
theorem RetVC.freezeAll {B : Base} {gs : List GV} {R : Value → PW → Prop} (hex : ∀ b, b ∈ B.ex → b ∈ B.rc) {σ : List (List PV)} : ∀ {O : List Own} {W : PW}, (∀ W', W.Le W' → (∀ o ∈ O, SlRead W' o.v o.n o.cs) → RetVC B gs R ⟨σ, [], W'⟩) → RetVC B gs R ⟨σ, O, W⟩
  | [], W, h => h W (PW.Le.refl _) fun o ho => by cases ho
  | o :: O, W, h => RetVC.freeze hex (i := 0) (o := o) rfl fun W1 l1 h1 => RetVC.freezeAll hex (O := O) (W := W1) fun W2 l2 h2 => h W2 (l1.trans l2) fun p hp => by
      rcases List.mem_cons.1 hp with rfl | hp
      · exact SlRead.mono h1 l2
      · exact h2 p hp
theorem LR.of_get {α : Type} {R : PW → α → List Value → Prop} {sz : Nat} {W : PW} : ∀ {xs : List α} {cs : List (List Value)}, cs.length = xs.length → (∀ (k : Nat) (x : α) (c : List Value), xs[k]? = some x → cs[k]? = some c → c.length = sz ∧ R W x c) → LR R sz W xs cs
  | [], [], _, _ => trivial
  | [], _ :: _, h, _ => by simp at h
  | _ :: _, [], h, _ => by simp at h
  | x :: xs, c :: cs, h, hg => ⟨hg 0 x c rfl rfl, LR.of_get (by simpa using h) fun k y d hy hd => hg (k + 1) y d hy hd⟩
def SpO (W : PW) (s : SpaceS) (c : List Value) (o : Own) : Prop := c = [strV s.name, o.v] ∧ o.n = s.rels.length ∧ ∃ rcs, LR RelR 3 W s.rels rcs ∧ o.cs = rcs.flatten
def FInv (W : PW) (xs : List SpaceS) (css : List (List Value)) (d : List Own) : Prop := css.length = xs.length ∧ ∀ (k : Nat) (s : SpaceS) (c : List Value), xs[k]? = some s → css[k]? = some c → ∃ o, o ∈ d ∧ SpO W s c o
theorem SpO.mono {W W' : PW} {s : SpaceS} {c : List Value} {o : Own} (l : W.Le W') (h : SpO W s c o) : SpO W' s c o := let ⟨h1, h2, rcs, h3, h4⟩ := h; ⟨h1, h2, rcs, h3.mono RelR.mono l, h4⟩
theorem FInv.mono {W W' : PW} {xs : List SpaceS} {css : List (List Value)} {d : List Own} (l : W.Le W') (h : FInv W xs css d) : FInv W' xs css d :=
  ⟨h.1, fun k s c h1 h2 => let ⟨o, h3, h4⟩ := h.2 k s c h1 h2; ⟨o, h3, h4.mono l⟩⟩
theorem FInv.nil (W : PW) (d : List Own) : FInv W [] [] d := ⟨rfl, fun k s c h => by simp at h⟩
theorem FInv.snoc {W : PW} {xs : List SpaceS} {css : List (List Value)} {d : List Own} (h : FInv W xs css d) {s : SpaceS} {c : List Value} {o : Own} (hs : SpO W s c o) : FInv W (xs ++ [s]) (css ++ [c]) (o :: d) := by
  refine ⟨by simp [h.1], fun k y e hy he => ?_⟩
  by_cases hk : k < xs.length
  · rw [List.getElem?_append_left hk] at hy
    rw [List.getElem?_append_left (by rw [h.1]; exact hk)] at he
    obtain ⟨p, hp, hq⟩ := h.2 k y e hy he
    exact ⟨p, List.mem_cons_of_mem _ hp, hq⟩
  · rw [List.getElem?_append_right (by omega)] at hy
    rw [List.getElem?_append_right (by rw [h.1]; omega), h.1] at he
    obtain ⟨j, hj⟩ : ∃ j, k - xs.length = j := ⟨_, rfl⟩
    rw [hj] at hy he
    cases j with
    | zero =>
      simp only [List.getElem?_cons_zero, Option.some.injEq] at hy he
      subst hy he
      exact ⟨o, List.mem_cons_self .., hs⟩
    | succ j => simp at hy
theorem FInv.lr {W W' : PW} {xs : List SpaceS} {css : List (List Value)} {d : List Own} (h : FInv W xs css d) (l : W.Le W') (hf : ∀ o ∈ d, SlRead W' o.v o.n o.cs) : LR SpR 2 W' xs css :=
  LR.of_get h.1 fun k s c h1 h2 => by
    obtain ⟨o, h3, h4, h5, rcs, h6, h7⟩ := h.2 k s c h1 h2
    subst h4
    refine ⟨rfl, o.v, rfl, rcs, h6.mono RelR.mono l, ?_⟩
    have := hf o h3
    rw [h5, h7] at this
    exact this

structure FwS where
  i : Nat
  A : Option Addr
  c : Nat
  d : List Own
  css : List (List Value)
structure FwR where
  k : Nat
  A : Option Addr
  c : Nat
  rcs : List (List Value)
def spO (A : Option Addr) (i c : Nat) (css : List (List Value)) : Own := ⟨.slice A i c, 69, 2, i, css.flatten⟩
def relO (A : Option Addr) (i c : Nat) (css : List (List Value)) : Own := ⟨.slice A i c, 74, 3, i, css.flatten⟩
def scoO (A : Option Addr) (i c : Nat) (l : List ScopeS) : Own := ⟨.slice A i c, 78, 4, i, (l.map scopeC).flatten⟩
def nilS : Value := .slice none 0 0
theorem take_step {α : Type} {l : List α} {i n : Nat} (h : ¬ (i < n ∧ i < l.length)) (h1 : i ≤ n) (h2 : i ≤ l.length) : l.take i = l.take n ∧ i = (l.take n).length := by
  rcases Nat.lt_or_ge i l.length with h3 | h3
  · obtain rfl : i = n := by omega
    exact ⟨rfl, by rw [List.length_take]; omega⟩
  · obtain rfl : i = l.length := by omega
    rw [List.take_length, List.take_of_length_le h1]
    exact ⟨rfl, rfl⟩

set_option maxHeartbeats 8000000 in
theorem few_x (x : ConfS) (cs : List Value) (W : PW) (h : ConfR W x cs) : CallsX Tryz.prog 20 ⟨[.agg ⟨cs⟩]⟩ [] W fun v W' => ∃ cells, v = .agg ⟨cells⟩ ∧ ConfR W' (fewC x) cells := by
  obtain ⟨sv, kv, rfl, hS, hK⟩ := h
  obtain ⟨a1, c1, rfl, _, hc1⟩ := hS.form
  obtain ⟨a2, c2, rfl, _, hc2⟩ := hK.form
  have hmax := maxLen_big
  refine pureNX hmix Tryz.func20 r20 (by kernel_rfl) [nilO 69 2] rfl [.agg ⟨[.slice a1 x.spaces.length c1, .slice a2 x.scopes.length c2]⟩] rfl ?_
  refine vc_assoc (vc_assoc (vc_cut (fun f' S' => ∃ (i : Nat) (A : Option Addr) (c : Nat) (d : List Own) (css : List (List Value)) (W1 : PW), S' = ⟨[[.v (.slice a1 x.spaces.length c1), .v (.slice a2 x.scopes.length c2)], [.v nilS, .v nilS], [.v (.slice A i c), .v nilS]], spO A i c css :: d, W1⟩ ∧ W.Le W1 ∧ i = (fewC x).spaces.length ∧ FInv W1 (fewC x).spaces css d ∧ AllSl f' [(1, .lp 0 0), (2, .lp 1 0), (3, .lp 2 0)]) ?_ ?_))
  · refine ⟨FwS, fun t => [(4, .v (.int .i64 t.i))], fun t => [[.v (.slice a1 x.spaces.length c1), .v (.slice a2 x.scopes.length c2)], [.v nilS, .v nilS], [.v (.slice t.A t.i t.c), .v nilS]], fun t => spO t.A t.i t.c t.css :: t.d, fun t W' => t.i ≤ 5 ∧ t.i ≤ x.spaces.length ∧ FInv W' ((x.spaces.take t.i).map fewSp) t.css t.d, fun t => 5 - t.i, ⟨0, none, 0, [], []⟩,
      all_sl ⟨rfl, trivial⟩, rfl, ole_refl _, ⟨Nat.zero_le _, Nat.zero_le _, FInv.nil _ _⟩, loopOK (fun _ => ⟨⟨trivial, rfl⟩, trivial⟩) (fun _ => rfl) (fun _ => rfl), ?_⟩
    rintro ⟨i, A, c, d, css⟩ W1 l1 ⟨hi5, hin, hF⟩ fr
    dsimp only at hi5 hin hF
    refine vc_cut (fun f' S' => S' = ⟨[[.v (.slice a1 x.spaces.length c1), .v (.slice a2 x.scopes.length c2)], [.v nilS, .v nilS], [.v (.slice A i c), .v nilS]], spO A i c css :: d, W1⟩ ∧ i < 5 ∧ i < x.spaces.length ∧ AllSl f' [(1, .lp 0 0), (2, .lp 1 0), (3, .lp 2 0), (4, .v (.int .i64 i))]) ?_ ?_
    · have out : ¬ (i < 5 ∧ i < x.spaces.length) → i = (fewC x).spaces.length ∧ FInv W1 (fewC x).spaces css d := fun hn => by
        obtain ⟨e1, e2⟩ := take_step hn hi5 hin
        rw [e1] at hF
        exact ⟨by unfold fewC; rw [List.length_map]; exact e2, hF⟩
      refine ⟨rfl, ?_⟩
      apply br_split
      · intro h1
        have h1 : (i : Int) < x.spaces.length := h1
        refine ⟨rfl, ?_⟩
        apply br_split
        · intro h2
          have h2 : (i : Int) < 5 := h2
          exact ⟨rfl, by omega, by omega, ⟨rfl, rfl, rfl, rfl, trivial⟩⟩
        · intro h2
          have h2 : ¬ (i : Int) < 5 := h2
          obtain ⟨o1, o2⟩ := out (by omega)
          exact ⟨i, A, c, d, css, W1, rfl, l1, o1, o2, ⟨rfl, rfl, rfl, trivial⟩⟩
      · intro h1
        have h1 : ¬ (i : Int) < x.spaces.length := h1
        obtain ⟨o1, o2⟩ := out (by omega)
        exact ⟨i, A, c, d, css, W1, rfl, l1, o1, o2, ⟨rfl, rfl, rfl, trivial⟩⟩
    rintro f3 S3 ⟨rfl, h5, hq, hfr⟩
    have hqi : (i : Int) < x.spaces.length := by omega
    obtain ⟨pc, rfl, s, ds, hx, hcl, ⟨rv, hds, hR⟩, hall, _⟩ := hS.at SpR.mono l1 (j := i) ⟨by omega, hqi⟩
    have hx : x.spaces[i]? = some s := hx
    obtain ⟨a3, c3, rfl, _, hc3⟩ := hR.form
    subst hds
    refine vc_cut (fun f' S' => ∃ (A' : Option Addr) (c' : Nat) (o : Own) (cell : List Value) (ex : List PV) (W2 : PW), S' = ⟨[[.v (.slice (some pc) x.spaces.length c1), .v (.slice a2 x.scopes.length c2)], [.v nilS, .v nilS], [.v (.slice A' (i + 1) c'), .v nilS], ex], spO A' (i + 1) c' (css ++ [cell]) :: o :: d, W2⟩ ∧ W1.Le W2 ∧ SpO W2 (fewSp s) cell o ∧ AllSl f' [(4, .v (.int .i64 i))]) ?_ ?_
    rotate_left
    · rintro f4 S4 ⟨A', c', o, cell, ex, W2, rfl, l2, hso, hfr4⟩
      refine vc_at _ hfr4 ?_
      refine ⟨rfl, _, (i64_in ((i : Int) + 1) ⟨by omega, by omega⟩).symm, ⟨i + 1, A', c', o :: d, css ++ [cell]⟩, all_sl ⟨rfl, trivial⟩, rfl, ole_refl _, ⟨by dsimp only; omega, by dsimp only; omega, ?_⟩, by dsimp only; omega⟩
      have : (x.spaces.take (i + 1)).map fewSp = (x.spaces.take i).map fewSp ++ [fewSp s] := by rw [List.take_add_one, hx]; simp
      dsimp only
      rw [this]
      exact (hF.mono l2).snoc hso
    refine vc_block ?_
    refine vc_at _ hfr ?_
    refine vc_assoc (vc_cut (fun f' S' => ∃ (Ar : Option Addr) (m cr : Nat) (rcs : List (List Value)) (W2 : PW), S' = ⟨[[.v (.slice (some pc) x.spaces.length c1), .v (.slice a2 x.scopes.length c2)], [.v nilS, .v nilS], [.v (.slice A i c), .v nilS], [.v (strV (fewSp s).name), .v (.slice Ar m cr)]], spO A i c css :: relO Ar m cr rcs :: d, W2⟩ ∧ W1.Le W2 ∧ m = (fewSp s).rels.length ∧ LR RelR 3 W2 (fewSp s).rels rcs ∧ AllSl f' [(3, .lp 2 0), (4, .v (.int .i64 i)), (5, .lp 3 0)]) ?_ ?_)
    rotate_left
    · rintro f4 S4 ⟨Ar, m, cr, rcs, W2, rfl, l2, hm, hL, hfr4⟩
      refine vc_at _ hfr4 ?_
      obtain ⟨nm, hnm⟩ : ∃ nm, (fewSp s).name = nm := ⟨_, rfl⟩
      rw [hnm]
      refine ⟨rfl, .inl fun bd Wd ld hrd => ⟨0, _, [strV nm, .slice Ar m cr], rfl, rfl, rfl, rfl, rfl, ?_, fun _ => ⟨_, rfl, hrd.o⟩, by show i + 1 ≤ maxLen; omega, by show (i + 1) * 40 ≤ 140737488355328; omega, rfl, @fun Ae ce _ => ?_⟩⟩
      · intro u hu
        simp only [List.mem_cons, List.not_mem_nil, or_false] at hu
        rcases hu with rfl | rfl <;> rfl
      refine ⟨Ae, ce, relO Ar m cr rcs, [strV nm, .slice Ar m cr], [.v (strV nm), .v (.slice Ar m cr)], Wd, ?_, l2.trans ld, ⟨by rw [hnm]; rfl, hm, rcs, hL.mono RelR.mono ld, rfl⟩, ⟨rfl, trivial⟩⟩
      have : (css ++ [[strV nm, .slice Ar m cr]]).flatten = css.flatten ++ [strV nm, .slice Ar m cr] := by simp
      unfold spO
      rw [this]
      rfl
    refine ⟨⟨by omega, hqi⟩, pc, rfl, strV s.name, (hall 0 _ rfl).o, ?_⟩
    refine call_v rfl (fun W' _ => short_x s.name 40 W') (fun W3 v W4 l3 l4 hv => ?_)
    obtain ⟨nm, hnm, rfl⟩ : ∃ nm, (fewSp s).name = nm ∧ v = strV nm := ⟨_, rfl, hv⟩
    rw [hnm]
    refine ⟨FwR, fun t => [(6, .v (.int .i64 t.k))], fun t => [[.v (.slice (some pc) x.spaces.length c1), .v (.slice a2 x.scopes.length c2)], [.v nilS, .v nilS], [.v (.slice A i c), .v nilS], [.v (strV nm), .v (.slice t.A t.k t.c)]], fun t => spO A i c css :: relO t.A t.k t.c t.rcs :: d, fun t W' => t.k ≤ 6 ∧ t.k ≤ s.rels.length ∧ LR RelR 3 W' ((s.rels.take t.k).map fewRel) t.rcs, fun t => 6 - t.k, ⟨0, none, 0, []⟩,
      all_sl ⟨rfl, trivial⟩, rfl, ole_ins 74 3, ⟨Nat.zero_le _, Nat.zero_le _, trivial⟩, loopOK (fun _ => ⟨⟨trivial, rfl⟩, trivial⟩) (fun _ => rfl) (fun _ => rfl), ?_⟩
    rintro ⟨k, Ar, cr, rcs⟩ W5 l5 ⟨hk6, hkn, hL⟩ fr2
    dsimp only at hk6 hkn hL
    have l15 := l3.trans (l4.trans l5)
    refine vc_cut (fun f' S' => S' = ⟨[[.v (.slice (some pc) x.spaces.length c1), .v (.slice a2 x.scopes.length c2)], [.v nilS, .v nilS], [.v (.slice A i c), .v nilS], [.v (strV nm), .v (.slice Ar k cr)]], spO A i c css :: relO Ar k cr rcs :: d, W5⟩ ∧ k < 6 ∧ k < s.rels.length ∧ AllSl f' [(1, .lp 0 0), (3, .lp 2 0), (4, .v (.int .i64 i)), (5, .lp 3 0), (6, .v (.int .i64 k))]) ?_ ?_
    · have out : ¬ (k < 6 ∧ k < s.rels.length) → k = (fewSp s).rels.length ∧ LR RelR 3 W5 (fewSp s).rels rcs := fun hn => by
        obtain ⟨e1, e2⟩ := take_step hn hk6 hkn
        rw [e1] at hL
        exact ⟨by unfold fewSp; rw [List.length_map]; exact e2, hL⟩
      refine ⟨⟨by omega, hqi⟩, pc, rfl, .slice a3 s.rels.length c3, ((hall 1 _ rfl).mono l15).o, rfl, ?_⟩
      apply br_split
      · intro h1
        have h1 : (k : Int) < s.rels.length := h1
        refine ⟨rfl, ?_⟩
        apply br_split
        · intro h2
          have h2 : (k : Int) < 6 := h2
          exact ⟨rfl, by omega, by omega, ⟨rfl, rfl, rfl, rfl, rfl, trivial⟩⟩
        · intro h2
          have h2 : ¬ (k : Int) < 6 := h2
          obtain ⟨o1, o2⟩ := out (by omega)
          exact ⟨Ar, k, cr, rcs, W5, rfl, l15, o1, o2, ⟨rfl, rfl, rfl, trivial⟩⟩
      · intro h1
        have h1 : ¬ (k : Int) < s.rels.length := h1
        obtain ⟨o1, o2⟩ := out (by omega)
        exact ⟨Ar, k, cr, rcs, W5, rfl, l15, o1, o2, ⟨rfl, rfl, rfl, trivial⟩⟩
    rintro f5 S5 ⟨rfl, hk, hqk, hfr5⟩
    have hqki : (k : Int) < s.rels.length := by omega
    obtain ⟨pd, rfl, r, es, hy, hcl2, ⟨tv, nv, hes, hT, hN⟩, _, hrd2⟩ := hR.at RelR.mono l15 (j := k) ⟨by omega, hqki⟩
    have hy : s.rels[k]? = some r := hy
    obtain ⟨a4, c4, rfl, hc4, hc4'⟩ := hT.form
    obtain ⟨a5, c5, rfl, hc5, hc5'⟩ := hN.form
    subst hes
    refine vc_cut (fun f' S' => ∃ (A' : Option Addr) (c' : Nat) (cell : List Value) (ex : List PV) (W6 : PW), S' = ⟨[[.v (.slice (some pc) x.spaces.length c1), .v (.slice a2 x.scopes.length c2)], [.v nilS, .v nilS], [.v (.slice A i c), .v nilS], [.v (strV nm), .v (.slice A' (k + 1) c')], ex], spO A i c css :: relO A' (k + 1) c' (rcs ++ [cell]) :: d, W6⟩ ∧ W5.Le W6 ∧ cell.length = 3 ∧ RelR W6 (fewRel r) cell ∧ AllSl f' [(6, .v (.int .i64 k))]) ?_ ?_
    rotate_left
    · rintro f4 S4 ⟨A', c', cell, ex, W6, rfl, l6, hcell, hRR, hfr4⟩
      refine vc_at _ hfr4 ?_
      refine ⟨rfl, _, (i64_in ((k : Int) + 1) ⟨by omega, by omega⟩).symm, ⟨k + 1, A', c', rcs ++ [cell]⟩, all_sl ⟨rfl, trivial⟩, rfl, ole_refl _, ⟨by dsimp only; omega, by dsimp only; omega, ?_⟩, by dsimp only; omega⟩
      have : (s.rels.take (k + 1)).map fewRel = (s.rels.take k).map fewRel ++ [fewRel r] := by rw [List.take_add_one, hy]; simp
      dsimp only
      rw [this]
      exact LR.snoc hcell hRR (hL.mono RelR.mono l6)
    refine vc_block ?_
    refine vc_at _ hfr5 ?_
    refine vc_assoc (vc_cut (fun f' S' => ∃ (tA : Option Addr) (tc : Nat), S' = ⟨[[.v (.slice (some pc) x.spaces.length c1), .v (.slice a2 x.scopes.length c2)], [.v nilS, .v nilS], [.v (.slice A i c), .v nilS], [.v (strV nm), .v (.slice Ar k cr)], [.v (strV r.name), .v (.slice tA (r.types.take 9).length tc), .v (.slice a5 r.nodes.length c5)]], spO A i c css :: relO Ar k cr rcs :: d, W5⟩ ∧ RP typC W5 (.slice tA (r.types.take 9).length tc) (r.types.take 9) ∧ AllSl f' [(5, .lp 3 0), (6, .v (.int .i64 k)), (7, .lp 4 0)]) ?_ ?_)
    · refine ⟨⟨by omega, hqi⟩, pc, rfl, .slice (some pd) s.rels.length c3, ((hall 1 _ rfl).mono l15).o, ⟨by omega, hqki⟩, pd, rfl, [strV r.name, .slice a4 r.types.length c4, .slice a5 r.nodes.length c5], rfl, hrd2.o, rfl, ?_⟩
      apply br_split
      · intro h9
        have h9 : (9 : Int) < r.types.length := h9
        have e9 : (r.types.take 9).length = 9 := by rw [List.length_take]; omega
        have hcut := RP.cut (sz := 2) (fun _ => rfl) hT (l := 0) (m := 9) (by decide) (by omega)
        refine ⟨by omega, (if c4 = 0 then a4 else a4.map (·.add (0 * 2))), c4 - 0, ?_, ?_, ⟨rfl, rfl, rfl, trivial⟩⟩
        · rw [e9]; rfl
        · rw [e9]; exact hcut
      · intro h9
        have h9 : ¬ (9 : Int) < r.types.length := h9
        have e9 : r.types.take 9 = r.types := List.take_of_length_le (by omega)
        rw [e9]
        exact ⟨a4, c4, rfl, hT, ⟨rfl, rfl, rfl, trivial⟩⟩
    rintro f6 S6 ⟨tA, tc, rfl, hT9, hfr6⟩
    refine vc_cut (fun f' S' => ∃ (nA : Option Addr) (nc : Nat), S' = ⟨[[.v (.slice (some pc) x.spaces.length c1), .v (.slice a2 x.scopes.length c2)], [.v nilS, .v nilS], [.v (.slice A i c), .v nilS], [.v (strV nm), .v (.slice Ar k cr)], [.v (strV r.name), .v (.slice tA (r.types.take 9).length tc), .v (.slice nA (r.nodes.take 66).length nc)]], spO A i c css :: relO Ar k cr rcs :: d, W5⟩ ∧ RP nodeC W5 (.slice nA (r.nodes.take 66).length nc) (r.nodes.take 66) ∧ AllSl f' [(5, .lp 3 0), (6, .v (.int .i64 k)), (7, .lp 4 0)]) ?_ ?_
    · refine vc_at _ hfr6 ?_
      refine ⟨rfl, ?_⟩
      apply br_split
      · intro h9
        have h9 : (66 : Int) < r.nodes.length := h9
        have e9 : (r.nodes.take 66).length = 66 := by rw [List.length_take]; omega
        have hcut := RP.cut (sz := 5) (fun _ => rfl) hN (l := 0) (m := 66) (by decide) (by omega)
        refine ⟨by omega, (if c5 = 0 then a5 else a5.map (·.add (0 * 5))), c5 - 0, ?_, ?_, ⟨rfl, rfl, rfl, trivial⟩⟩
        · rw [e9]; rfl
        · rw [e9]; exact hcut
      · intro h9
        have h9 : ¬ (66 : Int) < r.nodes.length := h9
        have e9 : r.nodes.take 66 = r.nodes := List.take_of_length_le (by omega)
        rw [e9]
        exact ⟨a5, c5, rfl, hN, ⟨rfl, rfl, rfl, trivial⟩⟩
    rintro f7 S7 ⟨nA, nc, rfl, hN9, hfr7⟩
    refine vc_at _ hfr7 ?_
    obtain ⟨tl, htl⟩ : ∃ tl, (r.types.take 9).length = tl := ⟨_, rfl⟩
    obtain ⟨nl, hnl⟩ : ∃ nl, (r.nodes.take 66).length = nl := ⟨_, rfl⟩
    rw [htl] at hT9 ⊢
    rw [hnl] at hN9 ⊢
    refine ⟨rfl, .inl fun bd Wd ld hrd => ⟨1, _, [strV r.name, .slice tA tl tc, .slice nA nl nc], rfl, rfl, rfl, rfl, rfl, ?_, fun _ => ⟨_, rfl, hrd.o⟩, by show k + 1 ≤ maxLen; omega, by show (k + 1) * 64 ≤ 140737488355328; omega, rfl, @fun Ae ce _ => ?_⟩⟩
    · intro u hu
      simp only [List.mem_cons, List.not_mem_nil, or_false] at hu
      rcases hu with rfl | rfl | rfl <;> rfl
    refine ⟨Ae, ce, [strV r.name, .slice tA tl tc, .slice nA nl nc], [.v (strV r.name), .v (.slice tA tl tc), .v (.slice nA nl nc)], Wd, ?_, ld, rfl, ⟨_, _, rfl, hT9.mono ld, hN9.mono ld⟩, ⟨rfl, trivial⟩⟩
    have : (rcs ++ [[strV r.name, .slice tA tl tc, .slice nA nl nc]]).flatten = rcs.flatten ++ [strV r.name, .slice tA tl tc, .slice nA nl nc] := by simp
    unfold relO
    rw [this]
    rfl
  rintro f1 S1 ⟨n5, A, c, d, css, W1, rfl, l1, hn5, hF, hfr⟩
  refine vc_cut (fun f' S' => ∃ (i : Nat) (B : Option Addr) (e : Nat) (W2 : PW), S' = ⟨[[.v (.slice a1 x.spaces.length c1), .v (.slice a2 x.scopes.length c2)], [.v nilS, .v nilS], [.v (.slice A n5 c), .v (.slice B i e)]], spO A n5 c css :: scoO B i e (x.scopes.take 5) :: d, W2⟩ ∧ W1.Le W2 ∧ i = (x.scopes.take 5).length ∧ AllSl f' [(2, .lp 1 0), (3, .lp 2 0)]) ?_ ?_
  · refine vc_at _ hfr ?_
    refine ⟨Nat × Option Addr × Nat, fun t => [(10, .v (.int .i64 t.1))], fun t => [[.v (.slice a1 x.spaces.length c1), .v (.slice a2 x.scopes.length c2)], [.v nilS, .v nilS], [.v (.slice A n5 c), .v (.slice t.2.1 t.1 t.2.2)]], fun t => spO A n5 c css :: scoO t.2.1 t.1 t.2.2 (x.scopes.take t.1) :: d, fun t _ => t.1 ≤ 5 ∧ t.1 ≤ x.scopes.length, fun t => 5 - t.1, (0, none, 0),
      all_sl ⟨rfl, trivial⟩, rfl, ole_ins 78 4, ⟨Nat.zero_le _, Nat.zero_le _⟩, loopOK (fun _ => ⟨⟨trivial, rfl⟩, trivial⟩) (fun _ => rfl) (fun _ => rfl), ?_⟩
    rintro ⟨i, B, e⟩ W2 l2 ⟨hi5, hin⟩ fr
    dsimp only at hi5 hin
    refine vc_cut (fun f' S' => S' = ⟨[[.v (.slice a1 x.spaces.length c1), .v (.slice a2 x.scopes.length c2)], [.v nilS, .v nilS], [.v (.slice A n5 c), .v (.slice B i e)]], spO A n5 c css :: scoO B i e (x.scopes.take i) :: d, W2⟩ ∧ i < 5 ∧ i < x.scopes.length ∧ AllSl f' [(1, .lp 0 0), (3, .lp 2 0), (10, .v (.int .i64 i))]) ?_ ?_
    · refine ⟨rfl, ?_⟩
      apply br_split
      · intro h1
        have h1 : (i : Int) < x.scopes.length := h1
        refine ⟨rfl, ?_⟩
        apply br_split
        · intro h2
          have h2 : (i : Int) < 5 := h2
          exact ⟨rfl, by omega, by omega, ⟨rfl, rfl, rfl, trivial⟩⟩
        · intro h2
          have h2 : ¬ (i : Int) < 5 := h2
          obtain ⟨e1, e2⟩ := take_step (n := 5) (l := x.scopes) (i := i) (by omega) hi5 hin
          exact ⟨i, B, e, W2, by rw [← e1], l2, e2, ⟨rfl, rfl, trivial⟩⟩
      · intro h1
        have h1 : ¬ (i : Int) < x.scopes.length := h1
        obtain ⟨e1, e2⟩ := take_step (n := 5) (l := x.scopes) (i := i) (by omega) hi5 hin
        exact ⟨i, B, e, W2, by rw [← e1], l2, e2, ⟨rfl, rfl, trivial⟩⟩
    rintro f3 S3 ⟨rfl, h5, hq, hfr3⟩
    refine vc_at _ hfr3 ?_
    have hqi : (i : Int) < x.scopes.length := by omega
    obtain ⟨p1, rfl, s, hy, _, _, hr1⟩ := hK.at (sz := 4) (fun _ => rfl) (l1.trans l2) (j := i) ⟨by omega, hqi⟩
    have hy : x.scopes[i]? = some s := hy
    refine ⟨⟨by omega, hqi⟩, p1, rfl, scopeC s, rfl, hr1.o, rfl, .inl fun bd Wd ld hrd => ⟨1, _, scopeC s, rfl, rfl, rfl, rfl, rfl, ?_, fun _ => ⟨_, rfl, hrd.o⟩, by show i + 1 ≤ maxLen; omega, by show (i + 1) * 64 ≤ 140737488355328; omega, rfl, @fun Ae ce _ => ?_⟩⟩
    · intro u hu
      simp only [scopeC, List.mem_cons, List.not_mem_nil, or_false] at hu
      rcases hu with rfl | rfl | rfl | rfl <;> rfl
    refine ⟨rfl, _, (i64_in ((i : Int) + 1) ⟨by omega, by omega⟩).symm, (i + 1, Ae, ce), all_sl ⟨rfl, trivial⟩, rfl, ole_eq ?_, ⟨by dsimp only; omega, by dsimp only; omega⟩, by dsimp only; omega⟩
    dsimp only
    have : ((x.scopes.take (i + 1)).map scopeC).flatten = ((x.scopes.take i).map scopeC).flatten ++ scopeC s := by rw [List.take_add_one, hy]; simp
    unfold scoO
    rw [this]
    rfl
  rintro f3 S3 ⟨i, B, e, W2, rfl, l2, hi, hfr3⟩
  refine vc_at _ hfr3 ?_
  refine RetVC.freezeAll (fun _ hb => hb) fun W3 l3 hall => ?_
  refine ret_plain rfl fun W4 l4 => ?_
  have h1 := hall _ (List.mem_cons_self ..)
  have h2 := hall _ (List.mem_cons_of_mem _ (List.mem_cons_self ..))
  have h3 := hF.lr (l2.trans l3) fun o ho => hall o (List.mem_cons_of_mem _ (List.mem_cons_of_mem _ ho))
  refine ⟨_, rfl, _, _, rfl, ⟨css, h3.mono SpR.mono l4, ?_⟩, ?_⟩
  · rw [← hn5]; exact SlRead.mono h1 l4
  · have : RP scopeC W3 (.slice B i e) (x.scopes.take 5) := by unfold RP; rw [← hi]; exact h2
    exact this.mono l4
end Go.Proofs.YtcgbcbdgjhnlaaaGreat
