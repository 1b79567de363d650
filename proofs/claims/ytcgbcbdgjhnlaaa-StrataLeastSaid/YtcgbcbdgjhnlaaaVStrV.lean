/- Layer 18 (strata), the document's functions walked: All, Find, walk. No statement is proved here. -/
import Derived.Test.YtcgbcbdgjhnlaaaVStrU
import Derived.Test.YtcgbcbdgjhnlaaaVSpaB
import Derived.Test.YtcgbcbdgjhnlaaaVCodeSD
import Derived.Test.YtcgbcbdgjhnlaaaVGrA
namespace Go.Proofs.Ytcgbcbdgjhnlaaa
open Go.RowKit

abbrev NameD := List UInt8 × RelS
def allP (ss : List SpaceS) : List NameD := ss.flatMap fun s => s.rels.map fun r => (s.name, r)
def allD (c : ConfS) : List NameD := allP c.spaces
def isN (sp rl : List UInt8) (x : NameD) : Bool := decide (x.1 = sp) && decide (x.2.name = rl)
def findD (l : List NameD) (sp rl : List UInt8) : Int := match l.findIdx? (isN sp rl) with | some k => k | none => -1
theorem findD_no {l : List NameD} {sp rl : List UInt8} (h : ∀ x ∈ l, isN sp rl x = false) : findD l sp rl = -1 := by
  unfold findD
  rw [List.findIdx?_eq_none_iff.2 h]
theorem findD_yes {l : List NameD} {sp rl : List UInt8} {i : Nat} {x : NameD} (hx : l[i]? = some x) (hq : isN sp rl x = true) (h : ∀ y ∈ l.take i, isN sp rl y = false) : findD l sp rl = i := by
  unfold findD
  have : l.findIdx? (isN sp rl) = some i := by
    obtain ⟨h1, h2⟩ := List.getElem?_eq_some_iff.1 hx
    rw [List.findIdx?_eq_some_iff_getElem]
    refine ⟨h1, by rw [h2]; exact hq, fun j hj => ?_⟩
    have := h l[j] (by rw [List.mem_take_iff_getElem]; exact ⟨j, by omega, rfl⟩)
    rw [this]; exact Bool.false_ne_true
  rw [this]
theorem findD_in (l : List NameD) (sp rl : List UInt8) : findD l sp rl = -1 ∨ ∃ (i : Nat) (x : NameD), findD l sp rl = i ∧ l[i]? = some x ∧ isN sp rl x = true := by
  unfold findD
  cases h : l.findIdx? (isN sp rl) with
  | none => exact .inl rfl
  | some i =>
    rw [List.findIdx?_eq_some_iff_getElem] at h
    obtain ⟨h1, h2, _⟩ := h
    exact .inr ⟨i, l[i], rfl, List.getElem?_eq_getElem h1, h2⟩
structure DE where
  f : Nat
  t : Int
  ab : Bool
def deC (e : DE) : List Value := [.int .i64 e.f, .int .i64 e.t, .bool e.ab]
def okD (es : List DE) : Bool := es.all fun e => decide (0 ≤ e.t)
def keyT (thn : List UInt8) (t : TypS) : List UInt8 := if thn = [] then t.rel else thn
def leafD (l : List NameD) (f : Nat) (ab : Bool) (thn : List UInt8) (types : List TypS) : List DE := (setsS types).map fun t => ⟨f, findD l t.space (keyT thn t), ab⟩
def leafR (l : List NameD) (f : Nat) (ab : Bool) (thn : List UInt8) (types : List TypS) : List DE × Bool := (leafD l f ab thn types, okD (leafD l f ab thn types) && (decide (thn = []) || !decide (leafD l f ab thn types = [])))
def typesAt (l : List NameD) (f : Nat) : List TypS := ((l[f]?).map (·.2.types)).getD []
def spAt (l : List NameD) (f : Nat) : List UInt8 := ((l[f]?).map (·.1)).getD []
def walkT (l : List NameD) (f : Nat) : Tr → Bool → List DE × Bool
  | .this, ab => leafR l f ab [] (typesAt l f)
  | .rel w, ab => ([⟨f, findD l (spAt l f) w, ab⟩], decide (0 ≤ findD l (spAt l f) w))
  | .arrow w v, ab => if findD l (spAt l f) w < 0 then ([], false) else leafR l f ab v (typesAt l (findD l (spAt l f) w).toNat)
  | .op k a b, ab => ((walkT l f a ab).1 ++ (walkT l f b (ab || decide (k = 6))).1, (walkT l f a ab).2 && (walkT l f b (ab || decide (k = 6))).2)
theorem setsS_le (l : List TypS) : (setsS l).length ≤ l.length := List.length_filter_le _ _
theorem walkT_len {l : List NameD} (hb : ∀ x ∈ l, x.2.types.length ≤ 1000) (f : Nat) : ∀ (t : Tr) (ab : Bool), (walkT l f t ab).1.length ≤ t.size * 1000
  | .this, ab => by
    show (leafD l f ab [] (typesAt l f)).length ≤ 1 * 1000
    unfold leafD typesAt
    rw [List.length_map]
    refine Nat.le_trans (setsS_le _) ?_
    cases h : l[f]? with
    | none => simp
    | some x => have := hb x (List.mem_of_getElem? h); simpa using this
  | .rel w, ab => by show 1 ≤ 1 * 1000; decide
  | .arrow w v, ab => by
    show (if findD l (spAt l f) w < 0 then (([], false) : List DE × Bool) else leafR l f ab v (typesAt l (findD l (spAt l f) w).toNat)).1.length ≤ 1 * 1000
    split
    · exact Nat.zero_le _
    · unfold leafR leafD typesAt
      dsimp only
      rw [List.length_map]
      refine Nat.le_trans (setsS_le _) ?_
      cases h : l[(findD l (spAt l f) w).toNat]? with
      | none => simp
      | some x => have := hb x (List.mem_of_getElem? h); simpa using this
  | .op k a b, ab => by
    have h1 := walkT_len hb f a ab
    have h2 := walkT_len hb f b (ab || decide (k = 6))
    simp only [walkT, List.length_append, Tr.size]
    omega
/-- A tree's nodes stand in a list, behind so many others. -/
def AtT (l : List NodeS) (m : Nat) (t : Tr) : Prop := ∃ pre post, l = pre ++ layN m t ++ post ∧ pre.length = m
theorem AtT.node {l : List NodeS} {m : Nat} {t : Tr} (h : AtT l m t) {i : Nat} (hi : i < t.size) : l[m + i]? = (layN m t)[i]? := by
  obtain ⟨pre, post, rfl, rfl⟩ := h
  rw [List.append_assoc, List.getElem?_append_right (by omega), Nat.add_sub_cancel_left, List.getElem?_append_left (by rw [layN_len]; exact hi)]
theorem AtT.left {l : List NodeS} {m k : Nat} {a b : Tr} (h : AtT l m (.op k a b)) : AtT l m a := by
  obtain ⟨pre, post, rfl, rfl⟩ := h
  exact ⟨pre, layN (pre.length + a.size) b ++ [⟨k, [], [], ((pre.length + a.size : Nat) : Int) - 1, ((pre.length + a.size + b.size : Nat) : Int) - 1⟩] ++ post, by simp only [layN, List.append_assoc], rfl⟩
theorem AtT.right {l : List NodeS} {m k : Nat} {a b : Tr} (h : AtT l m (.op k a b)) : AtT l (m + a.size) b := by
  obtain ⟨pre, post, rfl, rfl⟩ := h
  exact ⟨pre ++ layN pre.length a, [⟨k, [], [], ((pre.length + a.size : Nat) : Int) - 1, ((pre.length + a.size + b.size : Nat) : Int) - 1⟩] ++ post, by simp only [layN, List.append_assoc], by rw [List.length_append, layN_len]⟩
theorem AtT.len {l : List NodeS} {m : Nat} {t : Tr} (h : AtT l m t) : m + t.size ≤ l.length := by
  obtain ⟨pre, post, rfl, rfl⟩ := h
  simp only [List.length_append, layN_len]; omega
def rootT (m : Nat) : Tr → NodeS
  | .this => ⟨1, [], [], 0, 0⟩
  | .rel w => ⟨2, w, [], 0, 0⟩
  | .arrow w v => ⟨3, w, v, 0, 0⟩
  | .op k a b => ⟨k, [], [], ((m + a.size : Nat) : Int) - 1, ((m + a.size + b.size : Nat) : Int) - 1⟩
theorem AtT.root {l : List NodeS} {m : Nat} {t : Tr} (h : AtT l m t) : l[m + t.size - 1]? = some (rootT m t) := by
  have hp := t.size_pos
  rw [show m + t.size - 1 = m + (t.size - 1) by omega, h.node (by omega)]
  cases t with
  | this => rfl
  | rel w => rfl
  | arrow w v => rfl
  | op k a b =>
    simp only [layN, Tr.size, Nat.add_sub_cancel]
    rw [List.getElem?_append_right (by rw [List.length_append, layN_len, layN_len]; exact Nat.le_refl _), List.length_append, layN_len, layN_len, Nat.sub_self]; rfl

def nameR (W : PW) (x : NameD) (cs : List Value) : Prop := ∃ tv nv, cs = [strV x.1, strV x.2.name, tv, nv] ∧ RP typC W tv x.2.types ∧ RP nodeC W nv x.2.nodes
theorem nameR.mono (W W' : PW) (x : NameD) (cs : List Value) (l : W.Le W') (h : nameR W x cs) : nameR W' x cs := let ⟨tv, nv, e, h1, h2⟩ := h; ⟨tv, nv, e, h1.mono l, h2.mono l⟩
def nmO (A : Option Addr) (n c : Nat) (css : List (List Value)) : Own := ⟨.slice A n c, 191, 4, n, css.flatten⟩
structure AlSt where
  i : Nat
  n : Nat
  A : Option Addr
  c : Nat
  css : List (List Value)
theorem allP_snoc {ss : List SpaceS} {i : Nat} {s : SpaceS} (h : ss[i]? = some s) : allP (ss.take (i + 1)) = allP (ss.take i) ++ s.rels.map fun r => (s.name, r) := by
  unfold allP
  rw [List.take_add_one, h, List.flatMap_append]
  simp
set_option maxHeartbeats 4000000 in
theorem alld_x (x : ConfS) (cs : List Value) (W : PW) (hB : BdC x) (h : ConfR W x cs) : CallsX Try.prog 65 ⟨[.agg ⟨cs⟩]⟩ [] W fun v W' => RL nameR 4 W' v (allD x) := by
  obtain ⟨hb1, _, hb3⟩ := hB
  obtain ⟨sv, kv, rfl, hS, hK⟩ := h
  obtain ⟨a1, c1, rfl, _, hc1⟩ := hS.form
  obtain ⟨a2, c2, rfl, _, hc2⟩ := hK.form
  have hmax : (10000000 : Nat) ≤ maxLen := by decide
  refine pureNX hmix Try.func65 r65 (by kernel_rfl) [nilO 191 4] rfl [.agg ⟨[.slice a1 x.spaces.length c1, .slice a2 x.scopes.length c2]⟩] rfl ?_
  refine ⟨AlSt, fun t => [(3, .v (.slice t.A t.n t.c)), (4, .v (.int .i64 t.i))], fun _ => [[.v (.slice a1 x.spaces.length c1), .v (.slice a2 x.scopes.length c2)]], fun t => [nmO t.A t.n t.c t.css], fun t W' => t.i ≤ x.spaces.length ∧ t.n = (allP (x.spaces.take t.i)).length ∧ t.n ≤ 1000 * t.i ∧ LR nameR 4 W' (allP (x.spaces.take t.i)) t.css, fun t => x.spaces.length - t.i, ⟨0, 0, none, 0, []⟩,
    all_sl ⟨rfl, rfl, trivial⟩, rfl, ole_refl _, ⟨Nat.zero_le _, rfl, Nat.le_refl _, trivial⟩, loopOK (fun _ => ⟨⟨trivial, rfl⟩, ⟨trivial, rfl⟩, trivial⟩) (fun _ => rfl) (fun _ => rfl), ?_⟩
  rintro ⟨i, n, A, c, css⟩ W1 l1 ⟨hi, hn, hn1, hL⟩ fr
  dsimp only at hi hn hn1 hL
  refine ⟨rfl, ?_⟩
  apply br_split
  · intro h1
    have hqi : (i : Int) < x.spaces.length := h1
    obtain ⟨pc, rfl, s, ds, hx, hcl, ⟨rv, hds, hR⟩, hall, _⟩ := hS.at SpR.mono l1 (j := i) ⟨by omega, hqi⟩
    have hx : x.spaces[i]? = some s := hx
    obtain ⟨hb4, hb5⟩ := hb3 s (List.mem_of_getElem? hx)
    obtain ⟨a3, c3, rfl, _, hc3⟩ := hR.form
    subst hds
    obtain ⟨nm, hnm⟩ : ∃ nm, s.name = nm := ⟨_, rfl⟩
    rw [hnm] at hall
    refine ⟨AlSt, fun t => [(3, .v (.slice t.A t.n t.c)), (5, .v (.int .i64 t.i))], fun _ => [[.v (.slice (some pc) x.spaces.length c1), .v (.slice a2 x.scopes.length c2)]], fun t => [nmO t.A t.n t.c t.css], fun t W' => t.i ≤ s.rels.length ∧ t.n = n + t.i ∧ LR nameR 4 W' (allP (x.spaces.take i) ++ (s.rels.take t.i).map fun r => (s.name, r)) t.css, fun t => s.rels.length - t.i, ⟨0, n, A, c, css⟩,
      all_sl ⟨rfl, rfl, trivial⟩, rfl, ole_refl _, ⟨Nat.zero_le _, rfl, by dsimp only; rw [List.take_zero, List.map_nil, List.append_nil]; exact hL⟩, loopOK (fun _ => ⟨⟨trivial, rfl⟩, ⟨trivial, rfl⟩, trivial⟩) (fun _ => rfl) (fun _ => rfl), ?_⟩
    rintro ⟨k, n2, A2, d2, dss⟩ W5 l5 ⟨hkn, hn2, hL2⟩ fr2
    dsimp only at hkn hn2 hL2
    refine ⟨⟨by omega, hqi⟩, pc, rfl, .slice a3 s.rels.length c3, ((hall 1 _ rfl).mono l5).o, rfl, ?_⟩
    apply br_split
    · intro h2
      have hqk : (k : Int) < s.rels.length := h2
      obtain ⟨pd, rfl, r, es, hy, hcl2, ⟨tv, nv, hes, hT, hN⟩, _, hrd2⟩ := hR.at RelR.mono l5 (j := k) ⟨by omega, hqk⟩
      have hy : s.rels[k]? = some r := hy
      obtain ⟨a4, c4, rfl, hc4, hc4'⟩ := hT.form
      obtain ⟨a5, c5, rfl, hc5, hc5'⟩ := hN.form
      subst hes
      obtain ⟨rn, hrn⟩ : ∃ nm, r.name = nm := ⟨_, rfl⟩
      rw [hrn] at hrd2
      refine ⟨⟨by omega, hqi⟩, pc, rfl, strV nm, ((hall 0 _ rfl).mono l5).o, ⟨by omega, hqi⟩, pc, rfl, .slice (some pd) s.rels.length c3, ((hall 1 _ rfl).mono l5).o, ⟨by omega, hqk⟩, pd, rfl, [strV rn, .slice a4 r.types.length c4, .slice a5 r.nodes.length c5], rfl, hrd2.o, ?_⟩
      refine ⟨rfl, .inl ?_⟩
      intro bd Wd ld hrd
      refine ⟨0, _, [strV nm, strV rn, .slice a4 r.types.length c4, .slice a5 r.nodes.length c5], rfl, rfl, rfl, rfl, rfl, ?_, fun _ => ⟨_, rfl, hrd.o⟩, by show n2 + 1 ≤ maxLen; omega, by show (n2 + 1) * 80 ≤ 140737488355328; omega, rfl, @fun Ae ce _ => ?_⟩
      · intro u hu
        simp only [List.mem_cons, List.not_mem_nil, or_false] at hu
        rcases hu with rfl | rfl | rfl | rfl <;> rfl
      refine ⟨rfl, _, (i64_in ((k : Int) + 1) ⟨by omega, by omega⟩).symm, ⟨k + 1, n2 + 1, Ae, ce, dss ++ [[strV nm, strV rn, .slice a4 r.types.length c4, .slice a5 r.nodes.length c5]]⟩, all_sl ⟨rfl, rfl, trivial⟩, rfl, ole_eq ?_, ⟨by dsimp only; omega, by dsimp only; omega, ?_⟩, by dsimp only; omega⟩
      · have : (dss ++ [[strV nm, strV rn, .slice a4 r.types.length c4, .slice a5 r.nodes.length c5]]).flatten = dss.flatten ++ [strV nm, strV rn, .slice a4 r.types.length c4, .slice a5 r.nodes.length c5] := by simp
        unfold nmO
        dsimp only
        rw [this]
        rfl
      · have : allP (x.spaces.take i) ++ (s.rels.take (k + 1)).map (fun r => (s.name, r)) = (allP (x.spaces.take i) ++ (s.rels.take k).map fun r => (s.name, r)) ++ [(s.name, r)] := by rw [List.take_add_one, hy]; simp
        dsimp only
        rw [this]
        have hRR : nameR Wd (s.name, r) [strV nm, strV rn, .slice a4 r.types.length c4, .slice a5 r.nodes.length c5] := ⟨_, _, by rw [hnm, hrn], hT.mono ld, hN.mono ld⟩
        exact LR.snoc rfl hRR (hL2.mono nameR.mono ld)
    · intro h2
      have hqk : ¬ (k : Int) < s.rels.length := h2
      have ek : k = s.rels.length := by omega
      rw [ek, List.take_length, ← allP_snoc hx] at hL2
      exact ⟨rfl, _, (i64_in ((i : Int) + 1) ⟨by omega, by omega⟩).symm, ⟨i + 1, n2, A2, d2, dss⟩, all_sl ⟨rfl, rfl, trivial⟩, rfl, ole_refl _, ⟨by dsimp only; omega, by dsimp only; rw [allP_snoc hx, List.length_append, List.length_map]; omega, by dsimp only; omega, hL2⟩, by dsimp only; omega⟩
  · intro h1
    have hqi : ¬ (i : Int) < x.spaces.length := h1
    have ei : i = x.spaces.length := by omega
    rw [ei, List.take_length] at hL hn
    refine RetVC.freeze (i := 0) (fun _ hb => hb) rfl fun W3 l3 hfr => ?_
    refine ret_plain rfl fun W4 l4 => ⟨css, hL.mono nameR.mono (l3.trans l4), ?_⟩
    have h3 : SlRead W4 (.slice A n c) n css.flatten := SlRead.mono hfr l4
    show SlRead W4 (.slice A n c) (allP x.spaces).length css.flatten
    rw [← hn]; exact h3

theorem isN_take {l : List NameD} {sp rl : List UInt8} {i : Nat} {x : NameD} (hx : l[i]? = some x) (h : ∀ y ∈ l.take i, isN sp rl y = false) (hq : isN sp rl x = false) : ∀ y ∈ l.take (i + 1), isN sp rl y = false := by
  intro y hy
  rw [List.take_add_one, hx] at hy
  rcases List.mem_append.1 hy with hy | hy
  · exact h y hy
  · simp only [Option.toList_some, List.mem_singleton] at hy; subst hy; exact hq
set_option maxHeartbeats 4000000 in
theorem findd_x (l : List NameD) (sp rl : List UInt8) (u : Value) (W : PW) (hl : l.length ≤ 1000000) (h : RL nameR 4 W u l) : CallsX Try.prog 118 ⟨[u, strV sp, strV rl]⟩ [] W fun v _ => v = .int .i64 (findD l sp rl) := by
  obtain ⟨a1, c1, rfl, _, _⟩ := h.form
  refine pureX hmix Try.func118 r118 (by kernel_rfl) [.slice a1 l.length c1, strV sp, strV rl] rfl ?_
  refine ⟨Nat, fun i => [(7, .v (.int .i64 i))], fun _ => [], fun _ => [], fun i _ => i ≤ l.length ∧ ∀ y ∈ l.take i, isN sp rl y = false, fun i => l.length - i, 0,
    all_sl ⟨rfl, trivial⟩, rfl, ole_refl _, ⟨Nat.zero_le _, fun y hy => by simp at hy⟩, loopOK (fun _ => ⟨⟨trivial, rfl⟩, trivial⟩) (fun _ => rfl) (fun _ => rfl), ?_⟩
  rintro i W1 l1 ⟨hi, hno⟩ fr
  refine ⟨rfl, ?_⟩
  apply br_split
  · intro h1
    have hq : (i : Int) < l.length := h1
    obtain ⟨pc, rfl, ⟨xs, xr⟩, ds, hx, hcl, ⟨tv, nv, hds, _, _⟩, hall, _⟩ := h.at nameR.mono l1 (j := i) ⟨by omega, hq⟩
    have hx : l[i]? = some (xs, xr) := hx
    subst hds
    obtain ⟨rn, hrn⟩ : ∃ nm, xr.name = nm := ⟨_, rfl⟩
    dsimp only at hall
    rw [hrn] at hall
    refine ⟨⟨by omega, hq⟩, pc, rfl, strV xs, (hall 0 _ rfl).o, ?_⟩
    apply br_split
    · intro h2
      have h2 : xs = sp := h2
      have hr1 : Rd W1 (((pc.add ((i : Int).toNat * 4)).add 1).add 0) (strV rn) := by rw [Addr.add_add]; exact hall 1 _ rfl
      refine ⟨⟨by omega, hq⟩, pc, rfl, strV rn, hr1.o, ?_⟩
      apply br_split
      · intro h3
        have h3 : rn = rl := h3
        refine ret_plain rfl fun _ _ => ?_
        rw [findD_yes hx (by unfold isN; rw [Bool.and_eq_true, decide_eq_true_eq, decide_eq_true_eq]; exact ⟨h2, by dsimp only; rw [hrn]; exact h3⟩) hno]
      · intro h3
        have h3 : ¬ rn = rl := h3
        exact ⟨rfl, _, (i64_in ((i : Int) + 1) ⟨by omega, by omega⟩).symm, i + 1, all_sl ⟨rfl, trivial⟩, rfl, ole_refl _, ⟨by omega, isN_take hx hno (by unfold isN; rw [decide_eq_false (p := xr.name = rl) (by rw [hrn]; exact h3), Bool.and_false])⟩, by dsimp only; omega⟩
    · intro h2
      have h2 : ¬ xs = sp := h2
      exact ⟨rfl, _, (i64_in ((i : Int) + 1) ⟨by omega, by omega⟩).symm, i + 1, all_sl ⟨rfl, trivial⟩, rfl, ole_refl _, ⟨by omega, isN_take hx hno (by unfold isN; rw [decide_eq_false (p := xs = sp) h2, Bool.false_and])⟩, by dsimp only; omega⟩
  · intro h1
    have hq : ¬ (i : Int) < l.length := h1
    have ei : i = l.length := by omega
    rw [ei, List.take_length] at hno
    exact ret_plain rfl fun _ _ => by rw [findD_no hno]
end Go.Proofs.Ytcgbcbdgjhnlaaa

