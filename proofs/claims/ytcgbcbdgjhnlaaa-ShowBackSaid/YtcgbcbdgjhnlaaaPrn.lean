/- Layer 17 (show): a configuration's text, Print, walked. -/
import Derived.Test.YtcgbcbdgjhnlaaaShoL
import Derived.Test.YtcgbcbdgjhnlaaaOpn
import Derived.Test.YtcgbcbdgjhnlaaaCodeP
namespace Go.Proofs.Ytcgbcbdgjhnlaaa
open Go.RowKit

/-! ## Texts, one behind the other -/
def catT {α : Type} (f : α → List UInt8) (l : List α) : List UInt8 := (l.map f).flatten
theorem catT_take {α : Type} {f : α → List UInt8} {l : List α} {i : Nat} {x : α} (h : l[i]? = some x) : catT f (l.take (i + 1)) = catT f (l.take i) ++ f x := by
  unfold catT
  rw [List.take_add_one, h, Option.toList_some, List.map_append, List.flatten_append, List.map_singleton, List.flatten_singleton]
theorem catT_len {α : Type} {f : α → List UInt8} {n : Nat} : ∀ {l : List α}, (∀ x ∈ l, (f x).length ≤ n) → (catT f l).length ≤ l.length * n
  | [], _ => Nat.zero_le _
  | a :: l, h => by
    have h1 := h a (List.mem_cons_self ..)
    have h2 := catT_len fun x hx => h x (List.mem_cons_of_mem a hx)
    unfold catT at h2 ⊢
    simp only [List.map_cons, List.flatten_cons, List.length_append, List.length_cons, Nat.add_mul]; omega

/-! ## What is right -/
structure GoodR (r : RelS) : Prop where
  name : wordS r.name = true
  types : ∀ t ∈ r.types, typOK t = true
  tn : r.types.length ≤ 8
  nn : r.nodes.length ≤ 64
  d0 : ¬ deepN r.nodes = 0
  d16 : deepN r.nodes ≤ 16
structure GoodS (s : SpaceS) : Prop where
  name : wordS s.name = true
  n : s.rels.length ≤ 16
  rels : ∀ r ∈ s.rels, GoodR r
structure GoodC (c : ConfS) : Prop where
  n : c.spaces.length ≤ 16
  m : c.scopes.length ≤ 16
  sp : ∀ s ∈ c.spaces, GoodS s
  sc : ∀ s ∈ c.scopes, scOK s = true
theorem anyF_no {α : Type} {q : α → Bool} {l : List α} (h : l.any q = false) : ∀ x ∈ l, q x = false := fun x hx => by
  rw [List.any_eq_false] at h
  exact Bool.eq_false_iff.2 (h x hx)
theorem right_good {c : ConfS} (h : rightN c = true) : GoodC c := by
  unfold rightN withinN at h
  simp only [Bool.and_eq_true, Bool.not_eq_true', decide_eq_false_iff_not, List.all_eq_true] at h
  obtain ⟨⟨⟨h1, h2⟩, h3⟩, h4, h5⟩ := h
  refine ⟨by omega, by omega, fun s hs => ?_, h5⟩
  have a := h3 s hs
  have b := h4 s hs
  unfold fewS at a
  unfold spOK at b
  simp only [Bool.not_eq_true', Bool.or_eq_false_iff, decide_eq_false_iff_not] at a
  simp only [Bool.and_eq_true, List.all_eq_true] at b
  refine ⟨b.1, by omega, fun r hr => ?_⟩
  have d := anyF_no a.2 r hr
  have e := b.2 r hr
  unfold muchN at d
  unfold relOK at e
  simp only [Bool.or_eq_false_iff, decide_eq_false_iff_not] at d
  simp only [Bool.and_eq_true, Bool.not_eq_true', decide_eq_false_iff_not, List.all_eq_true] at e
  exact ⟨e.1, e.2.2, by omega, by omega, e.2.1, by omega⟩

/-! ## A configuration's text -/
def kNs' : List UInt8 := [110, 97, 109, 101, 115, 112, 97, 99, 101, 32]
def kSc' : List UInt8 := [115, 99, 111, 112, 101, 32]
/-- Lists of nodes that are right are trees'. -/
def TreeF (T : List NodeS → Tr) : Prop := ∀ l : List NodeS, ¬ deepN l = 0 → (T l).ok ∧ l = layN 0 (T l) ∧ deepN l = (T l).dep
theorem treeF : ∃ T : List NodeS → Tr, TreeF T := by
  have h : ∀ l : List NodeS, ∃ t : Tr, ¬ deepN l = 0 → t.ok ∧ l = layN 0 t ∧ deepN l = t.dep := fun l => by
    by_cases h : deepN l = 0
    · exact ⟨.this, fun h' => absurd h h'⟩
    · obtain ⟨t, h1⟩ := deep_lay h
      exact ⟨t, fun _ => h1⟩
  exact ⟨fun l => Classical.choose (h l), fun l => Classical.choose_spec (h l)⟩
def pRel (T : List NodeS → Tr) (r : RelS) : List UInt8 := lineT r (T r.nodes)
def pSp (T : List NodeS → Tr) (s : SpaceS) : List UInt8 := kNs' ++ s.name ++ [32, 123, 10] ++ catT (pRel T) s.rels ++ [125, 10]
def pSc (s : ScopeS) : List UInt8 := kSc' ++ s.name ++ [32, 61, 32, 34] ++ refT s.object ++ [35] ++ s.rel ++ [34, 59, 10]
def pConf (T : List NodeS → Tr) (c : ConfS) : List UInt8 := catT (pSp T) c.spaces ++ catT pSc c.scopes
def printN (T : List NodeS → Tr) (c : ConfS) : List UInt8 × Int := if rightN c = true then (if 16384 < (pConf T c).length ∨ 16 < opnL (pConf T c) then ([], 5) else (pConf T c, 0)) else ([], 4)

theorem GoodR.tree {T : List NodeS → Tr} (hT : TreeF T) {r : RelS} (h : GoodR r) : (T r.nodes).ok ∧ r.nodes = layN 0 (T r.nodes) ∧ (T r.nodes).size ≤ 64 ∧ (T r.nodes).dep ≤ 16 := by
  obtain ⟨h1, h2, h3⟩ := hT r.nodes h.d0
  have h4 := h.nn
  have h5 := h.d16
  rw [h2, layN_len] at h4
  exact ⟨h1, h2, h4, by omega⟩
theorem pRel_len {T : List NodeS → Tr} (hT : TreeF T) {r : RelS} (h : GoodR r) : (pRel T r).length ≤ 5200 := by
  obtain ⟨h1, _, h3, _⟩ := h.tree hT
  have a := wordS_len h.name
  have b := typsT_len r.types 0 h.types
  have c := txtT_len _ h1
  have d := h.tn
  unfold pRel lineT
  simp only [List.length_append, List.length_cons, List.length_nil, kRelation']
  split
  · simp only [List.length_nil]; omega
  · simp only [List.length_append, List.length_cons, List.length_nil]; omega
theorem scOK_parts {s : ScopeS} (h : scOK s = true) : wordS s.name = true ∧ isRefS s.object = true ∧ wordS s.rel = true := by
  unfold scOK at h
  simpa only [Bool.and_eq_true] using h
theorem idS_len {s : List UInt8} (h : idS s = true) : s.length ≤ 32 := by
  unfold idS allS at h
  simp only [Bool.and_eq_true, decide_eq_true_eq] at h
  exact h.2.2
theorem isRef_small {r : RefS} (h : isRefS r = true) : r.space.length ≤ 32 ∧ r.id.length ≤ 32 := by
  unfold isRefS at h
  simp only [Bool.and_eq_true] at h
  exact ⟨wordS_len h.1, idS_len h.2⟩
theorem pSc_len {s : ScopeS} (h : scOK s = true) : (pSc s).length ≤ 200 := by
  obtain ⟨h1, h2, h3⟩ := scOK_parts h
  have a := wordS_len h1
  have b := isRef_small h2
  have c := wordS_len h3
  unfold pSc refT
  simp only [List.length_append, List.length_cons, List.length_nil, kSc']; omega
theorem rels_len {T : List NodeS → Tr} (hT : TreeF T) {s : SpaceS} (h : GoodS s) (k : Nat) : (catT (pRel T) (s.rels.take k)).length ≤ 83200 := by
  have a := catT_len (f := pRel T) (n := 5200) (l := s.rels.take k) fun r hr => pRel_len hT (h.rels r (List.mem_of_mem_take hr))
  have b : (s.rels.take k).length ≤ 16 := by have := h.n; rw [List.length_take]; omega
  omega
theorem pSp_len {T : List NodeS → Tr} (hT : TreeF T) {s : SpaceS} (h : GoodS s) : (pSp T s).length ≤ 84000 := by
  have a := rels_len hT h s.rels.length
  rw [List.take_length] at a
  have b := wordS_len h.name
  unfold pSp
  simp only [List.length_append, List.length_cons, List.length_nil, kNs']; omega
theorem sps_len {T : List NodeS → Tr} (hT : TreeF T) {c : ConfS} (h : GoodC c) (k : Nat) : (catT (pSp T) (c.spaces.take k)).length ≤ 1344000 := by
  have a := catT_len (f := pSp T) (n := 84000) (l := c.spaces.take k) fun s hs => pSp_len hT (h.sp s (List.mem_of_mem_take hs))
  have b : (c.spaces.take k).length ≤ 16 := by have := h.n; rw [List.length_take]; omega
  omega
theorem scs_len {c : ConfS} (h : GoodC c) (k : Nat) : (catT pSc (c.scopes.take k)).length ≤ 3200 := by
  have a := catT_len (f := pSc) (n := 200) (l := c.scopes.take k) fun s hs => pSc_len (h.sc s (List.mem_of_mem_take hs))
  have b : (c.scopes.take k).length ≤ 16 := by have := h.m; rw [List.length_take]; omega
  omega

/-! ## Walked -/
theorem reftxt_x (r : RefS) (h : r.small) (W : PW) : CallsX Try.prog 94 ⟨[.agg ⟨refC r⟩]⟩ [] W fun v _ => v = strV (refT r) := by
  refine pureX hmix Try.func94 r94 (by kernel_rfl) [.agg ⟨refC r⟩] rfl ?_
  obtain ⟨h1, h2⟩ := h
  refine ⟨cat_le4 1000001 (by show r.space.length + 1 ≤ _; omega) (by decide), cat_le4 2000001 (by show (r.space ++ [58]).length + r.id.length ≤ _; rw [List.length_append]; show r.space.length + 1 + r.id.length ≤ _; omega) (by decide), ?_⟩
  refine ret_plain rfl fun _ _ => ?_
  show strV (r.space ++ [58] ++ r.id) = _
  simp [refT]
theorem refText_x (r : RefS) (h : r.small) (W : PW) : CallsX Try.prog 50 ⟨[.agg ⟨refC r⟩]⟩ [] W fun v _ => v = strV (if isRefS r then refT r else []) := by
  refine pureX hmix Try.func50 r50 (by kernel_rfl) [.agg ⟨refC r⟩] rfl ?_
  refine call_v rfl (fun W' _ => checkRef_xl r ⟨by have := h.1; omega, by have := h.2; omega⟩ W') (fun W1 v W2 _ _ hv => ?_); subst hv
  refine ⟨rfl, br_nsplit (fun h' => ?_) (fun h' => ?_)⟩
  · have h' := okE_false h'
    refine ret_plain rfl fun _ _ => ?_
    rw [h']; rfl
  · have h' := okE_true h'
    refine call_v rfl (fun W' _ => reftxt_x r h W') (fun W1 v W2 _ _ hv => ?_); subst hv
    refine ret_plain rfl fun _ _ => ?_
    rw [h']; rfl
structure BSt where
  i : Nat
  p : Value
  A : Option Addr
  c : Nat
  l : List UInt8
def bO (b : Nat) (t : BSt) : List Own := [bufO (.slice t.A t.l.length t.c) t.l, bldO b t.p (.slice t.A t.l.length t.c)]
def NilIff (A : Option Addr) (c : Nat) (l : List UInt8) : Prop := Value.slice A l.length c = .slice none 0 0 ↔ l = []
theorem NilIff.app {A A' : Option Addr} {c c' : Nat} {l s : List UInt8} (h : NilIff A c l) (hn : Value.slice A' (l ++ s).length c' = .slice none 0 0 ↔ Value.slice A l.length c = .slice none 0 0 ∧ s.length = 0) : NilIff A' c' (l ++ s) := by
  unfold NilIff at h ⊢
  rw [hn, h, List.append_eq_nil_iff, List.length_eq_zero_iff]
theorem bld_info : ∃ i z, Try.prog.info? 174 = some i ∧ i.zero = some z ∧ z.cells.toList = [.pointer none, .slice none 0 0] := by
  have h : ((Try.prog.info? 174).bind fun i => i.zero.map fun z => z.cells.toList) = some [.pointer none, .slice none 0 0] := by kernel_rfl
  obtain ⟨i, hi, h⟩ := Option.bind_eq_some_iff.1 h
  obtain ⟨z, hz, h⟩ := Option.map_eq_some_iff.1 h
  exact ⟨i, z, hi, hz, h⟩

set_option maxHeartbeats 8000000 in
theorem print_x {T : List NodeS → Tr} (hT : TreeF T) (x : ConfS) (cs : List Value) (hok : okCB x) (W : PW) (h : ConfR W x cs) :
    CallsX Try.prog 61 ⟨[.agg ⟨cs⟩]⟩ [] W fun v _ => v = .tuple ⟨[strV (printN T x).1, .int .i64 (printN T x).2]⟩ := by
  obtain ⟨sv, kv, rfl, hS, hK⟩ := h
  obtain ⟨a1, c1, rfl, _, _⟩ := hS.form
  obtain ⟨a2, c2, rfl, _, _⟩ := hK.form
  have hmax := maxLen_big
  refine pureNX hmix Try.func61 r61 (by kernel_rfl) [nilO 5 1] rfl [.agg ⟨[.slice a1 x.spaces.length c1, .slice a2 x.scopes.length c2]⟩] rfl ?_
  refine call_v rfl (fun W' lw => right_x x _ hok W' (ConfR.mono _ _ _ _ lw ⟨_, _, rfl, hS, hK⟩)) (fun W3 v W4 l3 l4 hv => ?_)
  obtain ⟨b, hb, rfl⟩ : ∃ b, rightN x = b ∧ v = .bool b := ⟨_, rfl, hv⟩
  cases b with
  | false => exact ret_plain rfl fun _ _ => by unfold printN; rw [hb]; rfl
  | true =>
  have hg := right_good hb
  have l04 := l3.trans l4
  obtain ⟨ti, tz, e1, e2, e3⟩ := bld_info
  refine bld_alloc rfl e1 e2 e3 fun b _ => ?_
  have hn := hg.n
  have hm := hg.m
  refine ⟨BSt, fun t => [(17, .v (.int .i64 t.i))], fun _ => [[.v (.slice a1 x.spaces.length c1), .v (.slice a2 x.scopes.length c2)]], bO b, fun t _ => Used b t.p ∧ t.i ≤ x.spaces.length ∧ t.l = catT (pSp T) (x.spaces.take t.i) ∧ NilIff t.A t.c t.l, fun t => x.spaces.length - t.i, ⟨0, .pointer none, none, 0, []⟩,
    all_sl ⟨rfl, trivial⟩, rfl, ole_refl _, ⟨.inl rfl, Nat.zero_le _, rfl, by simp [NilIff]⟩, loopOK (fun _ => ⟨⟨trivial, rfl⟩, trivial⟩) (fun _ => rfl) (fun _ => rfl), ?_⟩
  rintro ⟨i, p, A, c, l⟩ W5 l5 ⟨hu, hi, hl, hnil⟩ fr
  dsimp only at hu hi hl hnil
  have hll : l.length ≤ 1344000 := by rw [hl]; exact sps_len hT hg i
  refine ⟨rfl, br_split (fun hq => ?_) (fun hq => ?_)⟩
  · have hq : (i : Int) < x.spaces.length := hq
    obtain ⟨pc, rfl, s, ds, hx, hcl, ⟨rv, hds, hR⟩, _, hrd⟩ := hS.at SpR.mono (l04.trans l5) (j := i) ⟨by omega, hq⟩
    have hx : x.spaces[i]? = some s := hx
    have hsg := hg.sp s (List.mem_of_getElem? hx)
    have hsok := hok.sp s (List.mem_of_getElem? hx)
    have hnl := wordS_len hsg.name
    have hrn := hsg.n
    obtain ⟨a3, c3, rfl, _, _⟩ := hR.form
    subst hds
    refine ⟨⟨by omega, hq⟩, pc, rfl, [strV s.name, .slice a3 s.rels.length c3], rfl, hrd.o, cat_le4 100 (by show 10 + s.name.length ≤ _; omega) (by decide), cat_le4 100 (by show (kNs' ++ s.name).length + 3 ≤ _; rw [List.length_append]; show 10 + s.name.length + 3 ≤ _; omega) (by decide), ?_⟩
    refine bld_write (i := 1) (j := 0) rfl rfl (by decide) hu (by show l.length + (kNs' ++ s.name ++ [32, 123, 10]).length ≤ _; rw [List.length_append, List.length_append]; show l.length + (10 + s.name.length + 3) ≤ _; omega) fun A1 d1 hn1 => ?_
    have hnil1 : NilIff A1 d1 (l ++ (kNs' ++ s.name ++ [32, 123, 10])) := hnil.app hn1
    have hl1 : (l ++ (kNs' ++ s.name ++ [32, 123, 10])).length ≤ 1345000 := by rw [List.length_append, List.length_append, List.length_append]; show l.length + (10 + s.name.length + 3) ≤ _; omega
    refine ⟨BSt, fun t => [(29, .v (.int .i64 t.i))], fun _ => [[.v (.slice (some pc) x.spaces.length c1), .v (.slice a2 x.scopes.length c2)], [.v (strV s.name), .v (.slice a3 s.rels.length c3)]], bO b, fun t _ => Used b t.p ∧ t.i ≤ s.rels.length ∧ t.l = l ++ (kNs' ++ s.name ++ [32, 123, 10]) ++ catT (pRel T) (s.rels.take t.i) ∧ NilIff t.A t.c t.l, fun t => s.rels.length - t.i, ⟨0, bldP b, A1, d1, l ++ (kNs' ++ s.name ++ [32, 123, 10])⟩,
      all_sl ⟨rfl, trivial⟩, rfl, ole_refl _, ⟨.inr rfl, Nat.zero_le _, by simp [catT], hnil1⟩, loopOK (fun _ => ⟨⟨trivial, rfl⟩, trivial⟩) (fun _ => rfl) (fun _ => rfl), ?_⟩
    rintro ⟨k, p2, A2, d2, m⟩ W6 l6 ⟨hu2, hk, hml, hnil2⟩ fr2
    dsimp only at hu2 hk hml hnil2
    have hmm : m.length ≤ 1430000 := by have := rels_len hT hsg k; rw [hml, List.length_append]; omega
    refine ⟨rfl, br_split (fun hq2 => ?_) (fun hq2 => ?_)⟩
    · have hq2 : (k : Int) < s.rels.length := hq2
      obtain ⟨pd, rfl, r, es, hy, hcl2, hRR, _, hrd2⟩ := hR.at RelR.mono l6 (j := k) ⟨by omega, hq2⟩
      have hy : s.rels[k]? = some r := hy
      have hrg := hsg.rels r (List.mem_of_getElem? hy)
      have hrok := hsok.rels r (List.mem_of_getElem? hy)
      obtain ⟨t1, t2, t3, _⟩ := hrg.tree hT
      have htn := hrg.tn
      have hpl := pRel_len hT hrg
      have hel : es.length = 3 := hcl2
      have hRR' := hRR
      obtain ⟨tv, nv, rfl, hTt, hNn⟩ := hRR
      obtain ⟨a4, c4, rfl, _, _⟩ := hTt.form
      obtain ⟨a5, c5, rfl, _, _⟩ := hNn.form
      refine ⟨⟨by omega, hq2⟩, pd, rfl, [strV r.name, .slice a4 r.types.length c4, .slice a5 r.nodes.length c5], rfl, hrd2.o, ?_⟩
      refine call_v rfl (fun W' lw => showline_x r (T r.nodes) (wordS_len hrg.name) hrg.types (by omega) t1 (by omega) t2 hrok.rel.2 _ W' (RelR.mono _ _ _ _ lw hRR')) (fun W7 v W8 l7 l8 hv => ?_)
      obtain ⟨y, hy', rfl⟩ : ∃ y, pRel T r = y ∧ v = strV y := ⟨_, rfl, hv⟩
      rw [hy'] at hpl
      refine bld_write (i := 1) (j := 0) rfl rfl (by decide) hu2 (by show m.length + y.length ≤ _; omega) fun A3 d3 hn3 => ?_
      have hnil3 : NilIff A3 d3 (m ++ y) := hnil2.app hn3
      refine ⟨rfl, _, (i64_in ((k : Int) + 1) ⟨by omega, by omega⟩).symm, ⟨k + 1, bldP b, A3, d3, m ++ y⟩, all_sl ⟨rfl, trivial⟩, rfl, ole_refl _, ⟨.inr rfl, by dsimp only; omega, ?_, hnil3⟩, by dsimp only; omega⟩
      dsimp only
      rw [catT_take hy, hml, hy', List.append_assoc (l ++ _)]
    · have hq2 : ¬ (k : Int) < s.rels.length := hq2
      rw [List.take_of_length_le (by omega)] at hml
      refine bld_write (i := 1) (j := 0) rfl rfl (by decide) hu2 (by show m.length + 2 ≤ _; omega) fun A3 d3 hn3 => ?_
      have hnil3 : NilIff A3 d3 (m ++ [125, 10]) := hnil2.app hn3
      refine ⟨rfl, _, (i64_in ((i : Int) + 1) ⟨by omega, by omega⟩).symm, ⟨i + 1, bldP b, A3, d3, m ++ [125, 10]⟩, all_sl ⟨rfl, trivial⟩, rfl, ole_refl _, ⟨.inr rfl, by dsimp only; omega, ?_, hnil3⟩, by dsimp only; omega⟩
      dsimp only
      rw [catT_take hx, hml, hl]
      simp only [pSp, List.append_assoc]
  have hq : ¬ (i : Int) < x.spaces.length := hq
  rw [List.take_of_length_le (by omega)] at hl
  refine ⟨BSt, fun t => [(42, .v (.int .i64 t.i))], fun _ => [[.v (.slice a1 x.spaces.length c1), .v (.slice a2 x.scopes.length c2)]], bO b, fun t _ => Used b t.p ∧ t.i ≤ x.scopes.length ∧ t.l = l ++ catT pSc (x.scopes.take t.i) ∧ NilIff t.A t.c t.l, fun t => x.scopes.length - t.i, ⟨0, p, A, c, l⟩,
    all_sl ⟨rfl, trivial⟩, rfl, ole_refl _, ⟨hu, Nat.zero_le _, by simp [catT], hnil⟩, loopOK (fun _ => ⟨⟨trivial, rfl⟩, trivial⟩) (fun _ => rfl) (fun _ => rfl), ?_⟩
  rintro ⟨k, p2, A2, d2, m⟩ W6 l6 ⟨hu2, hk, hml, hnil2⟩ fr2
  dsimp only at hu2 hk hml hnil2
  have hmm : m.length ≤ 1350000 := by have := scs_len hg k; rw [hml, List.length_append]; omega
  refine ⟨rfl, br_split (fun hq2 => ?_) (fun hq2 => ?_)⟩
  · have hq2 : (k : Int) < x.scopes.length := hq2
    obtain ⟨p1, rfl, s, hy, _, _, hr1⟩ := hK.at (sz := 4) (fun _ => rfl) (l04.trans (l5.trans l6)) (j := k) ⟨by omega, hq2⟩
    have hy : x.scopes[k]? = some s := hy
    have hsc := hg.sc s (List.mem_of_getElem? hy)
    have hpl := pSc_len hsc
    obtain ⟨w1, w2, w3⟩ := scOK_parts hsc
    have b1 := wordS_len w1
    have b2 := isRef_small w2
    have b3 := wordS_len w3
    refine ⟨⟨by omega, hq2⟩, p1, rfl, scopeC s, rfl, hr1.o, cat_le4 100 (by show 6 + s.name.length ≤ _; omega) (by decide), cat_le4 100 (by show (kSc' ++ s.name).length + 4 ≤ _; rw [List.length_append]; show 6 + s.name.length + 4 ≤ _; omega) (by decide), ?_⟩
    refine call_v rfl (fun W' lw => refText_x s.object ⟨by omega, by omega⟩ W') (fun W7 v W8 l7 l8 hv => ?_)
    obtain ⟨y, hy', rfl⟩ : ∃ y, refT s.object = y ∧ v = strV y := ⟨_, rfl, by rw [hv, w2, if_pos rfl]⟩
    have hyl : y.length ≤ 65 := by rw [← hy', refT, List.length_append, List.length_cons]; omega
    refine ⟨cat_le4 1000 (by show (kSc' ++ s.name ++ [32, 61, 32, 34]).length + y.length ≤ _; rw [List.length_append, List.length_append]; show 6 + s.name.length + 4 + y.length ≤ _; omega) (by decide), cat_le4 1000 (by show (kSc' ++ s.name ++ [32, 61, 32, 34] ++ y).length + 1 ≤ _; rw [List.length_append, List.length_append, List.length_append]; show 6 + s.name.length + 4 + y.length + 1 ≤ _; omega) (by decide),
      cat_le4 1000 (by show (kSc' ++ s.name ++ [32, 61, 32, 34] ++ y ++ [35]).length + s.rel.length ≤ _; rw [List.length_append, List.length_append, List.length_append, List.length_append]; show 6 + s.name.length + 4 + y.length + 1 + s.rel.length ≤ _; omega) (by decide), cat_le4 1000 (by show (kSc' ++ s.name ++ [32, 61, 32, 34] ++ y ++ [35] ++ s.rel).length + 3 ≤ _; rw [List.length_append, List.length_append, List.length_append, List.length_append, List.length_append]; show 6 + s.name.length + 4 + y.length + 1 + s.rel.length + 3 ≤ _; omega) (by decide), ?_⟩
    have he : kSc' ++ s.name ++ [32, 61, 32, 34] ++ y ++ [35] ++ s.rel ++ [34, 59, 10] = pSc s := by rw [← hy']; rfl
    refine bld_write (i := 1) (j := 0) (s := kSc' ++ s.name ++ [32, 61, 32, 34] ++ y ++ [35] ++ s.rel ++ [34, 59, 10]) rfl rfl (by decide) hu2 (by show m.length + _ ≤ _; rw [he]; omega) fun A3 d3 hn3 => ?_
    have hnil3 : NilIff A3 d3 (m ++ (kSc' ++ s.name ++ [32, 61, 32, 34] ++ y ++ [35] ++ s.rel ++ [34, 59, 10])) := hnil2.app hn3
    refine ⟨rfl, _, (i64_in ((k : Int) + 1) ⟨by omega, by omega⟩).symm, ⟨k + 1, bldP b, A3, d3, m ++ (kSc' ++ s.name ++ [32, 61, 32, 34] ++ y ++ [35] ++ s.rel ++ [34, 59, 10])⟩, all_sl ⟨rfl, trivial⟩, rfl, ole_refl _, ⟨.inr rfl, by dsimp only; omega, ?_, hnil3⟩, by dsimp only; omega⟩
    dsimp only
    rw [catT_take hy, hml, he, List.append_assoc]
  have hq2 : ¬ (k : Int) < x.scopes.length := hq2
  rw [List.take_of_length_le (by omega)] at hml
  have hfin : m = pConf T x := by rw [hml, hl]; rfl
  have hP : printN T x = if 16384 < m.length ∨ 16 < opnL m then ([], 5) else (m, 0) := by unfold printN; rw [hb, if_pos rfl, ← hfin]
  refine bld_len (i := 1) rfl ?_
  refine ⟨rfl, ?_⟩
  apply br_split
  · intro h1
    have h1 : (16384 : Int) < m.length := h1
    exact ret_plain rfl fun _ _ => by rw [hP, if_pos (.inl (by omega))]; rfl
  intro h1
  have h1 : ¬ (16384 : Int) < m.length := h1
  by_cases hm0 : m = []
  · subst hm0
    obtain ⟨rfl, rfl⟩ : A2 = none ∧ d2 = 0 := by have := hnil2.2 rfl; simpa using this
    refine bld_str0 (i := 1) rfl ?_
    refine call_v rfl (fun W' lw => opened_x [] (by decide) W') (fun W7 v W8 l7 l8 hv => ?_)
    have hv : v = .int .i64 0 := hv
    subst hv
    refine ⟨rfl, ?_⟩
    refine bld_str0 (i := 1) rfl ?_
    exact ret_plain rfl fun _ _ => by rw [hP]; rfl
  · refine bld_str (i := 1) (j := 0) rfl rfl rfl hm0 (by omega) fun g W9 hA hc l9 hF => ?_
    subst hA
    refine call_v rfl (fun W' lw => opened_x m (by omega) W') (fun W7 v W8 l7 l8 hv => ?_)
    obtain ⟨d, hd, rfl⟩ : ∃ d, opnL m = d ∧ v = .int .i64 d := ⟨_, rfl, hv⟩
    refine ⟨rfl, ?_⟩
    apply br_split
    · intro h2
      have h2 : (16 : Int) < d := h2
      exact ret_plain rfl fun _ _ => by rw [hP, hd, if_pos (.inr h2)]; rfl
    intro h2
    have h2 : ¬ (16 : Int) < d := h2
    refine bld_str2 (i := 0) rfl hm0 (by omega) hc (hF.mono (l7.trans l8)) ?_
    exact ret_plain rfl fun _ _ => by rw [hP, hd, if_neg (by omega)]
end Go.Proofs.Ytcgbcbdgjhnlaaa
