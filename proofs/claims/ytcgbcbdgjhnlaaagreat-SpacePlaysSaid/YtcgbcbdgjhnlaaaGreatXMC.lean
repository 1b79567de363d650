/- Layer 18 (strata), walked: numbers settled. -/
import Derived.Test.YtcgbcbdgjhnlaaaGreatXMB
import Derived.Test.YtcgbcbdgjhnlaaaGreatXFew
import Derived.Test.YtcgbcbdgjhnlaaaGreatXPB
import Derived.Maps.OwnSet
import Derived.Maps.OwnOps
import Derived.Maps.Views
namespace Go.Proofs.YtcgbcbdgjhnlaaaGreat
open Go.RowKit

def ShN (c : ConfS) (num : Num) : Prop := num.map List.length = c.spaces.map fun s => s.rels.length
def BndN (num : Num) (b : Nat) : Prop := ∀ r ∈ num, ∀ x ∈ r, x ≤ b
theorem shN_zero (c : ConfS) : ShN c (zeroN c) := by
  unfold ShN zeroN
  rw [List.map_map]
  exact List.map_congr_left fun s _ => List.length_replicate
theorem bndN_zero (c : ConfS) : BndN (zeroN c) 0 := by
  intro r hr x hx
  unfold zeroN at hr
  obtain ⟨s, _, rfl⟩ := List.mem_map.1 hr
  rw [List.eq_of_mem_replicate hx]
  exact Nat.le_refl _
theorem shN_len {c : ConfS} {num : Num} (h : ShN c num) : num.length = c.spaces.length := by
  have := congrArg List.length h
  simpa using this
theorem shN_in {c : ConfS} {num : Num} (h : ShN c num) {b : Nat} (hb : BndN num b) (hb2 : b ≤ 4000000000000000000) {s : Spot} (hs : ∃ r, relAt c s = some r) : InN num s := by
  obtain ⟨r, hr⟩ := hs
  unfold relAt at hr
  obtain ⟨sp, h1, h2⟩ := Option.bind_eq_some_iff.1 hr
  have hi : s.1 < num.length := by rw [shN_len h]; exact (List.getElem?_eq_some_iff.1 h1).1
  have hrow : num[s.1]? = some num[s.1] := List.getElem?_eq_getElem hi
  have hl : num[s.1].length = sp.rels.length := by
    have e : (num.map List.length)[s.1]? = (c.spaces.map fun s => s.rels.length)[s.1]? := by rw [h]
    rw [List.getElem?_map, List.getElem?_map, hrow, h1] at e
    exact Option.some.inj e
  have hk : s.2 < num[s.1].length := by rw [hl]; exact (List.getElem?_eq_some_iff.1 h2).1
  exact ⟨_, _, hrow, List.getElem?_eq_getElem hk, Nat.le_trans (hb _ (List.getElem_mem hi) _ (List.getElem_mem hk)) hb2⟩
theorem setN_sh {c : ConfS} {num : Num} (h : ShN c num) (s : Spot) (x : Nat) : ShN c (setN num s x) := by
  unfold ShN at h ⊢
  rw [← h]
  unfold setN
  apply List.ext_getElem?
  intro i
  rw [List.getElem?_map, List.getElem?_map, List.getElem?_set]
  split
  · rename_i e
    subst e
    split
    · rename_i hl
      rw [List.getElem?_eq_getElem hl]
      simp
    · rename_i hl
      rw [List.getElem?_eq_none (by omega)]
  · rfl
theorem setN_bnd {num : Num} {b : Nat} (h : BndN num b) {s : Spot} {x : Nat} (hx : x ≤ b) : BndN (setN num s x) b := by
  intro r hr y hy
  unfold setN at hr
  rcases List.mem_or_eq_of_mem_set hr with hr | rfl
  · exact h r hr y hy
  · rcases List.mem_or_eq_of_mem_set hy with hy | rfl
    · cases e : num[s.1]? with
      | none => rw [e] at hy; cases hy
      | some r => rw [e] at hy; exact h r (List.mem_of_getElem? e) y hy
    · exact hx
theorem getN_bnd {num : Num} {b : Nat} (h : BndN num b) (s : Spot) : getN num s ≤ b := by
  unfold getN
  cases e : num[s.1]? with
  | none => simp
  | some r =>
    rw [Option.getD_some]
    cases e2 : r[s.2]? with
    | none => simp
    | some x => rw [Option.getD_some]; exact h r (List.mem_of_getElem? e) x (List.mem_of_getElem? e2)
theorem BndN.mono {num : Num} {b b' : Nat} (h : BndN num b) (l : b ≤ b') : BndN num b' := fun r hr x hx => Nat.le_trans (h r hr x hx) l
theorem rise_ok {c : ConfS} {num : Num} {b : Nat} (h : ShN c num) (hb : BndN num b) (e : EdgeS) : ShN c (riseN num e).1 ∧ BndN (riseN num e).1 (b + 1) := by
  unfold riseN
  split
  · exact ⟨h, hb.mono (Nat.le_succ _)⟩
  · refine ⟨setN_sh h _ _, setN_bnd (hb.mono (Nat.le_succ _)) ?_⟩
    have := getN_bnd hb e.ts
    unfold leastN
    split <;> omega
theorem round_ok {c : ConfS} {l : List EdgeS} {num : Num} {b : Nat} (h : ShN c num) (hb : BndN num b) : ∀ i : Nat, ShN c (roundUp l num i).1 ∧ BndN (roundUp l num i).1 (b + i)
  | 0 => ⟨h, hb⟩
  | i + 1 => by
    obtain ⟨h1, h2⟩ := round_ok (l := l) h hb i
    rw [roundUp]
    split
    · exact rise_ok h1 h2 _
    · exact ⟨h1, h2.mono (by omega)⟩
theorem round_succ {l : List EdgeS} {num : Num} {i : Nat} {e : EdgeS} (h : l[i]? = some e) : roundUp l num (i + 1) = ((riseN (roundUp l num i).1 e).1, (riseN (roundUp l num i).1 e).2 || (roundUp l num i).2) := by
  rw [roundUp, h]
theorem relKeys_len (nm : List UInt8) (i : Nat) : ∀ (k : Nat) (rs : List RelS), (relKeys nm i k rs).length = rs.length
  | _, [] => rfl
  | k, r :: rs => by rw [relKeys, List.length_cons, relKeys_len nm i (k + 1) rs, List.length_cons]
theorem spaceKeys_len : ∀ (i : Nat) (ss : List SpaceS), (∀ s ∈ ss, s.rels.length ≤ 1000) → (spaceKeys i ss).length ≤ 1000 * ss.length
  | _, [], _ => Nat.le_refl _
  | i, s :: ss, h => by
    have h1 := h s (List.mem_cons_self ..)
    have h2 := spaceKeys_len (i + 1) ss fun x hx => h x (List.mem_cons_of_mem _ hx)
    rw [spaceKeys, List.length_append, relKeys_len, List.length_cons]
    omega
theorem keysS_len {c : ConfS} (hS : SmC c) : (keysS c).length ≤ 1000000 := by
  have := spaceKeys_len 0 c.spaces hS.2.2.2.1
  have := hS.2.2.1
  unfold keysS
  omega

def natC (n : Nat) : List Value := [natV n]
theorem flat_nat (l : List Nat) : (l.map natC).flatten = l.map natV := by
  induction l with
  | nil => rfl
  | cons b l ih => rw [List.map_cons, List.flatten_cons, ih]; rfl
def RowR (W : PW) (r : List Nat) (cs : List Value) : Prop := ∃ u, cs = [u] ∧ RP natC W u r
def NumR (W : PW) (v : Value) (n : Num) : Prop := RL RowR 1 W v n
def OptN (W : PW) (v : Value) (o : Option Num) : Prop := ∃ u, v = .tuple ⟨[u, .bool o.isSome]⟩ ∧ ∀ n, o = some n → NumR W u n
theorem nums_read {W : PW} {g0 N : Nat} {gs : List Nat} {num : Num} (hg : gs.length = N) (hn : num.length = N) (h : ∀ o ∈ numsO g0 N gs num, SlRead W o.v o.n o.cs) : NumR W (.slice (some ⟨g0, 0, none⟩) N N) num := by
  have h0 := h _ (List.mem_cons_self ..)
  refine ⟨(List.zipWith rowV gs num).map fun v => [v], LR.of_get (by simp [hg, hn]) fun k r cs hr hc => ?_, ?_⟩
  · rw [List.getElem?_map] at hc
    obtain ⟨g, hgk⟩ : ∃ g, gs[k]? = some g := ⟨_, List.getElem?_eq_getElem (by have := (List.getElem?_eq_some_iff.1 hr).1; omega)⟩
    rw [zip_at rowV hgk hr] at hc
    obtain rfl := Option.some.inj hc
    refine ⟨rfl, _, rfl, ?_⟩
    have := h (rowO g r) (List.mem_cons_of_mem _ (List.mem_of_getElem? (zip_at rowO hgk hr)))
    show SlRead W (rowV g r) r.length (r.map natC).flatten
    rw [flat_nat]; exact this
  · have e : ∀ l : List Value, (l.map fun v => [v]).flatten = l := fun l => by
      induction l with
      | nil => rfl
      | cons b l ih => rw [List.map_cons, List.flatten_cons, ih]; rfl
    rw [e, hn]
    have h1 : SlRead W (.slice (some ⟨g0, 0, none⟩) N N) N (List.zipWith rowV gs num ++ nilsV (N - num.length)) := h0
    rw [hn, Nat.sub_self] at h1
    unfold nilsV at h1
    rw [List.replicate_zero, List.append_nil] at h1
    exact h1
theorem nums_snoc {g0 N : Nat} {gs : List Nat} {num : Num} {gr : Nat} {r : List Nat} (hg : gs.length = num.length) (hi : num.length < N) :
    (numsO g0 N gs num ++ [rowO gr r]).set 0 { outO g0 N (List.zipWith rowV gs num ++ nilsV (N - num.length)) with cs := (List.zipWith rowV gs num ++ nilsV (N - num.length)).take num.length ++ [rowV gr r] ++ (List.zipWith rowV gs num ++ nilsV (N - num.length)).drop (num.length + 1) } = numsO g0 N (gs ++ [gr]) (num ++ [r]) := by
  have hz : (List.zipWith rowV gs num).length = num.length := by rw [List.length_zipWith, hg, Nat.min_self]
  have e1 : (List.zipWith rowV gs num ++ nilsV (N - num.length)).take num.length ++ [rowV gr r] ++ (List.zipWith rowV gs num ++ nilsV (N - num.length)).drop (num.length + 1) = List.zipWith rowV (gs ++ [gr]) (num ++ [r]) ++ nilsV (N - (num ++ [r]).length) := by
    rw [List.zipWith_append hg, List.take_left' hz, List.drop_append, List.drop_eq_nil_of_le (by omega), hz, List.length_append]
    unfold nilsV
    rw [List.drop_replicate, List.nil_append]
    show List.zipWith rowV gs num ++ [rowV gr r] ++ List.replicate (N - num.length - (num.length + 1 - num.length)) _ = List.zipWith rowV gs num ++ [rowV gr r] ++ List.replicate (N - (num.length + 1)) _
    rw [show N - num.length - (num.length + 1 - num.length) = N - (num.length + 1) by omega]
  show ({ outO g0 N (List.zipWith rowV gs num ++ nilsV (N - num.length)) with cs := _ } : Own) :: (List.zipWith rowO gs num ++ [rowO gr r]) = outO g0 N _ :: List.zipWith rowO (gs ++ [gr]) (num ++ [r])
  rw [e1, show List.zipWith rowO (gs ++ [gr]) (num ++ [r]) = List.zipWith rowO gs num ++ [rowO gr r] from List.zipWith_append hg]
  rfl
structure InSt where
  i : Nat
  gs : List Nat
  num : Num
structure RoSt where
  i : Nat
  num : Num
structure RiSt where
  i : Nat
  num : Num
  ch : Bool
theorem int_zeros (n : Nat) : (List.replicate n [Value.int .i64 0]).flatten = (List.replicate n 0).map natV := by
  induction n with
  | zero => rfl
  | succ n ih => rw [List.replicate_succ, List.flatten_cons, ih]; rfl
theorem nil_zeros (n : Nat) : (List.replicate n [Value.slice none 0 0]).flatten = nilsV n := by
  induction n with
  | zero => rfl
  | succ n ih => rw [List.replicate_succ, List.flatten_cons, ih]; rfl
set_option maxRecDepth 20000 in
set_option maxHeartbeats 16000000 in
theorem settle_x (c : ConfS) (hS : SmC c) (l : List EdgeS) (hl : l.length ≤ 1000000000000) (hE : ∀ e ∈ l, (∃ r, relAt c e.fs = some r) ∧ ∃ r, relAt c e.ts = some r) (a : Addr) (W : PW) (h : Idx W a c) (u : Value) (hu : RP edgeC W u l) :
    CallsX Tryz.prog 43 ⟨[.pointer (some a), u]⟩ [] W fun v W' => OptN W' v (settleS c l) := by
  have hmax : (100000000000000 : Nat) ≤ maxLen := by decide
  have hidx := h
  obtain ⟨sv, kv, g, i1, i2, i3, i4⟩ := h
  have hkl := keysS_len hS
  obtain ⟨M, hM⟩ : ∃ M, (keysS c).length = M := ⟨_, rfl⟩
  obtain ⟨R, hR⟩ : ∃ R, settleS c l = R := ⟨_, rfl⟩
  have hdef : settleGo l (M + 1) (zeroN c) = R := by rw [← hR, ← hM]; rfl
  rw [hR]
  obtain ⟨A0, c0, rfl, _, _⟩ := i2.form
  obtain ⟨A1, c1, rfl, _, _⟩ := hu.form
  have hN := hS.2.2.1
  obtain ⟨N, hNe⟩ : ∃ N, c.spaces.length = N := ⟨_, rfl⟩
  rw [hNe] at i1 i2 hN
  refine pureX hmix Tryz.func43 r43 (by kernel_rfl) [.pointer (some a), .slice A1 l.length c1] rfl ?_
  refine ⟨.slice A0 N c0, (rd_ff i1 (i := 0) (j := 0) rfl).o, ?_⟩
  refine ⟨⟨by omega, by omega, by omega, by omega⟩, fun g0 => ?_⟩
  refine ⟨.slice A0 N c0, (rd_ff i1 (i := 0) (j := 0) rfl).o, ?_⟩
  refine ⟨InSt, fun t => [(25, .v (.int .i64 t.i))], fun _ => [], fun t => numsO g0 N t.gs t.num, fun t _ => t.i ≤ N ∧ t.gs.length = t.i ∧ t.num = (zeroN c).take t.i, fun t => N - t.i, ⟨0, [], []⟩,
    all_sl ⟨rfl, trivial⟩, rfl, ole_eq ?_, ⟨Nat.zero_le _, rfl, rfl⟩, loopOK (fun _ => ⟨⟨trivial, rfl⟩, trivial⟩) (fun _ => rfl) (fun _ => rfl), ?_⟩
  · exact congrArg (fun cs => [(⟨.slice (some ⟨g0, 0, none⟩) N N, 91, 1, N, cs⟩ : Own)]) (nil_zeros N)
  rintro ⟨i, gs, num⟩ W1 l1 ⟨hi, hgl, hnum⟩ fr
  dsimp only at hi hgl hnum
  have hzl : (zeroN c).length = N := by unfold zeroN; rw [List.length_map]; exact hNe
  have hnl : num.length = i := by rw [hnum, List.length_take]; omega
  refine ⟨rfl, br_split (fun hq => ?_) (fun hq => ?_)⟩
  · have hq : (i : Int) < N := hq
    have inc := (i64_in ((i : Int) + 1) ⟨by omega, by omega⟩).symm
    obtain ⟨a0, rfl, sp, cs0, hsp, hc0, hR0, _, hr0⟩ := RL.at SpR.mono i2 l1 (j := (i : Int)) ⟨by omega, by omega⟩
    have hsp : c.spaces[i]? = some sp := hsp
    have hrl := hS.2.2.2.1 sp (List.mem_of_getElem? hsp)
    obtain ⟨rv, rfl, hrels⟩ := hR0
    obtain ⟨A2, c2, rfl, _, _⟩ := hrels.form
    have hnext : (zeroN c).take (i + 1) = num ++ [List.replicate sp.rels.length 0] := by
      rw [hnum, List.take_add_one]
      unfold zeroN
      rw [List.getElem?_map, hsp]; rfl
    refine ⟨⟨by omega, hq⟩, _, rfl, [strV sp.name, .slice A2 sp.rels.length c2], rfl, Rds.o hr0, ?_⟩
    refine ⟨⟨by omega, by omega, by omega, by omega⟩, fun gr => ?_⟩
    refine ⟨⟨by omega, hq⟩, _, rfl, ?_⟩
    have hz : (List.zipWith rowV gs num ++ nilsV (N - num.length)).length = N := by
      rw [List.length_append, List.length_zipWith]
      unfold nilsV
      rw [List.length_replicate]; omega
    refine ⟨0, outO g0 N (List.zipWith rowV gs num ++ nilsV (N - num.length)), ⟨g0, 0, none⟩, N, N, i * 1, rfl, rfl, rfl, rfl, (fun u hu => by rw [List.mem_singleton.1 hu]; rfl), by rw [Nat.mul_one]; show i + 1 ≤ (List.zipWith rowV gs num ++ nilsV (N - num.length)).length; omega, rfl, ?_⟩
    refine ⟨rfl, _, inc, ⟨i + 1, gs ++ [gr], num ++ [List.replicate sp.rels.length 0]⟩, all_sl ⟨rfl, trivial⟩, rfl, ole_eq ?_, ⟨by dsimp only; omega, by dsimp only; rw [List.length_append, hgl]; rfl, by dsimp only; rw [hnext]⟩, by dsimp only; omega⟩
    have e := nums_snoc (g0 := g0) (N := N) (gs := gs) (num := num) (gr := gr) (r := List.replicate sp.rels.length 0) (by omega) (by omega)
    rw [hnl] at e
    have e3 : (⟨.slice (some ⟨gr, 0, none⟩) sp.rels.length sp.rels.length, 3, 1, sp.rels.length, (List.replicate sp.rels.length [Value.int .i64 0]).flatten⟩ : Own) = rowO gr (List.replicate sp.rels.length 0) := by
      rw [int_zeros]
      unfold rowO rowV
      rw [List.length_replicate]
    have e4 : (rowV gr (List.replicate sp.rels.length 0)) = .slice (some ⟨gr, 0, none⟩) sp.rels.length sp.rels.length := by unfold rowV; rw [List.length_replicate]
    rw [← e3, e4] at e
    rw [Nat.mul_one, ← hnl] at *
    exact e
  · have hq : ¬ (i : Int) < N := hq
    obtain rfl : i = N := by omega
    rw [List.take_of_length_le (by omega)] at hnum
    subst hnum
    have hmw : ((M + 1 : Nat) : Int) = IntKind.i64.wrap (((keysS c).length : Int) + 1) := by rw [i64_in (((keysS c).length : Int) + 1) ⟨by omega, by omega⟩, hM]; rfl
    refine ⟨.map (some g), ((i1.mono l1) 2 _ rfl).o, ?_⟩
    refine raw_mlen rfl rfl (i4.mono l1) ?_
    refine ⟨rfl, ((M + 1 : Nat) : Int), hmw, ?_⟩
    clear hmw
    have hM6 : M ≤ 1000000 := by omega
    obtain ⟨T, hT⟩ : ∃ T, M + 1 = T := ⟨_, rfl⟩
    rw [hT] at hdef ⊢
    refine ⟨RoSt, fun t => [(44, .v (.int .i64 t.i))], fun _ => [], fun t => numsO g0 i gs t.num, fun t _ => t.i ≤ T ∧ ShN c t.num ∧ BndN t.num (t.i * l.length) ∧ settleGo l (T - t.i) t.num = R, fun t => T - t.i, ⟨0, zeroN c⟩,
      all_sl ⟨rfl, trivial⟩, rfl, ole_refl _, ⟨Nat.zero_le _, shN_zero c, by dsimp only; rw [Nat.zero_mul]; exact bndN_zero c, hdef⟩, loopOK (fun _ => ⟨⟨trivial, rfl⟩, trivial⟩) (fun _ => rfl) (fun _ => rfl), ?_⟩
    rintro ⟨k, num⟩ W2 l2 ⟨hk, hsh, hbn, hgo⟩ fr2
    dsimp only at hk hsh hbn hgo
    refine ⟨rfl, br_split (fun hq2 => ?_) (fun hq2 => ?_)⟩
    · have hq2 : (k : Int) < (T : Nat) := hq2
      have inc := (i64_in ((k : Int) + 1) ⟨by omega, by omega⟩).symm
      obtain ⟨F, hF⟩ : ∃ F, T - k = F + 1 := ⟨T - k - 1, by omega⟩
      rw [hF, settleGo] at hgo
      refine ⟨RiSt, fun t => [(9, .v (.bool t.ch)), (48, .v (.int .i64 t.i))], fun _ => [], fun t => numsO g0 i gs t.num, fun t _ => t.i ≤ l.length ∧ roundUp l num t.i = (t.num, t.ch), fun t => l.length - t.i, ⟨0, num, false⟩,
        all_sl ⟨rfl, rfl, trivial⟩, rfl, ole_refl _, ⟨Nat.zero_le _, rfl⟩, loopOK (fun _ => ⟨⟨trivial, rfl⟩, ⟨trivial, rfl⟩, trivial⟩) (fun _ => rfl) (fun _ => rfl), ?_⟩
      rintro ⟨j, num2, ch⟩ W3 l3 ⟨hj, hro⟩ fr3
      dsimp only at hj hro
      obtain ⟨hs2, hb2⟩ := round_ok (l := l) hsh hbn j
      rw [hro] at hs2 hb2
      dsimp only at hs2 hb2
      have hkb : k * l.length ≤ 1000001 * 1000000000000 := Nat.mul_le_mul (by omega) hl
      refine ⟨rfl, br_split (fun hq3 => ?_) (fun hq3 => ?_)⟩
      · have hq3 : (j : Int) < l.length := hq3
        have inc2 := (i64_in ((j : Int) + 1) ⟨by omega, by omega⟩).symm
        obtain ⟨a1, rfl, e, he, _, _, hr5⟩ := RP.at (f := edgeC) (sz := 5) (fun _ => rfl) hu (l1.trans (PW.Le.trans l2 l3)) (j := (j : Int)) ⟨by omega, by omega⟩
        have he : l[j]? = some e := he
        obtain ⟨hE1, hE2⟩ := hE e (List.mem_of_getElem? he)
        have hf1 := shN_in hs2 hb2 (by omega) hE1
        have hf2 := shN_in hs2 hb2 (by omega) hE2
        have hsucc := round_succ (num := num) he
        rw [hro] at hsucc
        dsimp only at hsucc
        have hlen2 := (shN_len hs2).trans hNe
        refine ⟨⟨by omega, hq3⟩, _, rfl, edgeC e, rfl, Rds.o hr5, ?_⟩
        refine rise_vc (g0 := g0) (N := i) (gs := gs) (num := num2) hgl hlen2 e hf1 hf2 fun W4 l4 => ?_
        obtain ⟨nb, hnb⟩ : ∃ nb, riseN num2 e = nb := ⟨_, rfl⟩
        rw [hnb] at hsucc ⊢
        obtain ⟨num3, b⟩ := nb
        dsimp only at hsucc
        cases b with
        | true => exact ⟨rfl, _, inc2, ⟨j + 1, num3, true⟩, all_sl ⟨rfl, rfl, trivial⟩, rfl, ole_refl _, ⟨by dsimp only; omega, hsucc⟩, by dsimp only; omega⟩
        | false => exact ⟨rfl, _, inc2, ⟨j + 1, num3, ch⟩, all_sl ⟨rfl, rfl, trivial⟩, rfl, ole_refl _, ⟨by dsimp only; omega, by rw [hsucc, Bool.false_or]⟩, by dsimp only; omega⟩
      · have hq3 : ¬ (j : Int) < l.length := hq3
        obtain rfl : j = l.length := by omega
        rw [hro] at hgo
        dsimp only at hgo
        cases ch with
        | false =>
          rw [if_neg (by decide)] at hgo
          subst hgo
          refine RetVC.freezeAll (fun _ hb => hb) fun W5 l5 hall => ?_
          exact ret_plain rfl fun W' l' => ⟨_, rfl, fun q hq => by cases hq; exact RL.mono (fun W W' x c l h => let ⟨u, e, h⟩ := h; ⟨u, e, h.mono l⟩) l' (nums_read hgl ((shN_len hs2).trans hNe) hall)⟩
        | true =>
          rw [if_pos rfl] at hgo
          exact ⟨rfl, _, inc, ⟨k + 1, num2⟩, all_sl ⟨rfl, trivial⟩, rfl, ole_refl _, ⟨by dsimp only; omega, hs2, by dsimp only; rw [Nat.add_mul, Nat.one_mul]; exact hb2, by dsimp only; rw [show T - (k + 1) = F by omega]; exact hgo⟩, by dsimp only; omega⟩
    · have hq2 : ¬ (k : Int) < (T : Nat) := hq2
      rw [show T - k = 0 by omega] at hgo
      have hgo : R = none := hgo.symm
      refine ret_plain rfl fun W' _ => ?_
      rw [hgo]
      exact ⟨_, rfl, fun l hl => by cases hl⟩
end Go.Proofs.YtcgbcbdgjhnlaaaGreat

/- Layer 18 (strata), walked: Numbers. -/
namespace Go.Proofs.YtcgbcbdgjhnlaaaGreat
open Go.RowKit

def HasR (c : ConfS) (s : Spot) : Prop := ∃ r, relAt c s = some r
theorem findUp_has {c : ConfS} {l : List TypS} : ∀ {i : Nat} {out : List Spot}, findUp c l i = some out → ∀ s ∈ out, HasR c s
  | 0, out, h => by cases h; exact fun s hs => by cases hs
  | i + 1, out, h => by
    rw [findUp] at h
    split at h
    · rename_i o t h1 h2
      have ih := findUp_has h1
      split at h
      · rename_i s hs
        cases h
        intro q hq
        rcases List.mem_append.1 hq with hq | hq
        · exact ih q hq
        · rw [List.mem_singleton.1 hq]; exact findS_rel hs
      · cases h
    · rename_i o h1 h2
      cases h
      exact findUp_has h1
    · cases h
theorem namedS_has {c : ConfS} {s : Spot} {r : RelS} {n : NodeS} {l : List Spot} (h : namedS c s r n = some l) : ∀ q ∈ l, HasR c q := by
  unfold namedS at h
  split at h
  · cases h
  · exact findUp_has h
theorem edgesUp_has {c : ConfS} {s : Spot} {r : RelS} (hs : HasR c s) : ∀ {i : Nat} {out : List EdgeS}, edgesUp c s r i = some out → ∀ e ∈ out, HasR c e.fs ∧ HasR c e.ts
  | 0, out, h => by cases h; exact fun s hs => by cases hs
  | i + 1, out, h => by
    rw [edgesUp] at h
    split at h
    · rename_i o n h1 h2
      have ih := edgesUp_has hs h1
      split at h
      · rename_i l hl
        cases h
        intro q hq
        rcases List.mem_append.1 hq with hq | hq
        · exact ih q hq
        · obtain ⟨t, ht, rfl⟩ := List.mem_map.1 hq
          exact ⟨hs, namedS_has hl t ht⟩
      · cases h
    · rename_i o h1 h2
      cases h
      exact edgesUp_has hs h1
    · cases h
theorem edgesS_has {c : ConfS} {s : Spot} {out : List EdgeS} (h : edgesS c s = some out) : ∀ e ∈ out, HasR c e.fs ∧ HasR c e.ts := by
  unfold edgesS at h
  split at h
  · cases h
  · rename_i r hr
    split at h
    · cases h
    · exact edgesUp_has ⟨r, hr⟩ h
theorem relsUp_has {c : ConfS} {x : Nat} : ∀ {k : Nat} {out : List EdgeS}, relsUp c x k = some out → ∀ e ∈ out, HasR c e.fs ∧ HasR c e.ts
  | 0, out, h => by cases h; exact fun s hs => by cases hs
  | k + 1, out, h => by
    rw [relsUp] at h
    split at h
    · rename_i o l h1 h2
      cases h
      intro q hq
      rcases List.mem_append.1 hq with hq | hq
      · exact relsUp_has h1 q hq
      · exact edgesS_has h2 q hq
    · cases h
theorem spacesUp_has {c : ConfS} : ∀ {i : Nat} {out : List EdgeS}, spacesUp c i = some out → ∀ e ∈ out, HasR c e.fs ∧ HasR c e.ts
  | 0, out, h => by cases h; exact fun s hs => by cases hs
  | i + 1, out, h => by
    rw [spacesUp] at h
    split at h
    · rename_i o s h1 h2
      have ih := spacesUp_has h1
      split at h
      · rename_i l hl
        cases h
        intro q hq
        rcases List.mem_append.1 hq with hq | hq
        · exact ih q hq
        · exact relsUp_has hl q hq
      · cases h
    · rename_i o h1 h2
      cases h
      exact spacesUp_has h1
    · cases h
theorem allE_has {c : ConfS} {l : List EdgeS} (h : allE c = some l) : ∀ e ∈ l, HasR c e.fs ∧ HasR c e.ts := by
  unfold allE at h
  split at h
  · cases h
  · rename_i o ho
    split at h
    · cases h; exact spacesUp_has ho
    · cases h
theorem allE_len {c : ConfS} (hS : SmC c) {l : List EdgeS} (h : allE c = some l) : l.length ≤ 1000000000000 := by
  unfold allE at h
  split at h
  · cases h
  · rename_i o ho
    split at h
    · cases h
      have := spacesUp_len hS ho
      have := hS.2.2.1
      omega
    · cases h

/-- What newIndex is to do. -/
def NewOK : Prop := ∀ (c : ConfS) (cells : List Value) (W : PW), SmC c → ConfR W c cells → CallsX Tryz.prog 41 ⟨[.agg ⟨cells⟩]⟩ [] W fun v W' => ∃ p, v = .tuple ⟨[.pointer p, .bool (onceS c)]⟩ ∧ (onceS c = true → ∃ a, p = some a ∧ Idx W' a c)
set_option maxRecDepth 20000 in
set_option maxHeartbeats 16000000 in
theorem numbers_x (hI : NewOK) (c : ConfS) (cells : List Value) (W : PW) (hok : okCB c) (hSm : rightN c = true → SmC c) (h : ConfR W c cells) :
    CallsX Tryz.prog 26 ⟨[.agg ⟨cells⟩]⟩ [] W fun v W' => ∃ u, v = .tuple ⟨[u, .int .i64 (numbersS c).2]⟩ ∧ NumR W' u (numbersS c).1 := by
  have hnil : ∀ W', NumR W' (.slice none 0 0) [] := fun W' => ⟨[], trivial, SlRead.nil W' _⟩
  obtain ⟨R, hR⟩ : ∃ R, numbersS c = R := ⟨_, rfl⟩
  have hdef : R = (if rightN c = false then (([], 4) : Num × Int) else if onceS c = false then (([], 10) : Num × Int) else match allE c with
    | none => (([], 14) : Num × Int)
    | some l => match settleS c l with | none => (([], 15) : Num × Int) | some n => ((n, 0) : Num × Int)) := by rw [← hR]; rfl
  rw [hR]
  have hcf := h
  obtain ⟨sv, kv, rfl, h1, h2⟩ := h
  obtain ⟨A0, c0, rfl, _, _⟩ := h1.form
  obtain ⟨A1, c1, rfl, _, _⟩ := h2.form
  refine pureX hmix Tryz.func26 r26 (by kernel_rfl) [.agg ⟨[.slice A0 c.spaces.length c0, .slice A1 c.scopes.length c1]⟩] rfl ?_
  refine call_v rfl (fun W' lw => right_x c _ hok W' (ConfR.mono _ _ _ _ lw hcf)) (fun W1 v W2 l1 l2 hv => ?_)
  subst hv
  obtain ⟨b, hb⟩ : ∃ b, rightN c = b := ⟨_, rfl⟩
  rw [hb] at hdef hSm ⊢
  cases b with
  | false =>
    refine ret_plain rfl fun W' _ => ?_
    rw [hdef, if_pos rfl]
    exact ⟨_, rfl, hnil W'⟩
  | true =>
    rw [if_neg (by decide)] at hdef
    have hS := hSm rfl
    refine call_v rfl (fun W' lw => hI c _ W' hS (ConfR.mono _ _ _ _ (l1.trans (l2.trans lw)) hcf)) (fun W3 v W4 l3 l4 hv => ?_)
    obtain ⟨p, rfl, hp⟩ := hv
    obtain ⟨o, ho⟩ : ∃ o, onceS c = o := ⟨_, rfl⟩
    rw [ho] at hdef hp ⊢
    refine ⟨_, rfl, _, rfl, ?_⟩
    cases o with
    | false =>
      refine ret_plain rfl fun W' _ => ?_
      rw [hdef, if_pos rfl]
      exact ⟨_, rfl, hnil W'⟩
    | true =>
      rw [if_neg (by decide)] at hdef
      obtain ⟨a, rfl, hidx⟩ := hp rfl
      refine call_v rfl (fun W' lw => all_x c hS a W' (hidx.mono lw)) (fun W5 v W6 l5 l6 hv => ?_)
      obtain ⟨u, rfl, hu⟩ := hv
      have hE := fun l h => allE_has (c := c) (l := l) h
      have hL := fun l h => allE_len hS (l := l) h
      obtain ⟨ao, hao⟩ : ∃ ao, allE c = ao := ⟨_, rfl⟩
      rw [hao] at hdef hE hL hu ⊢
      refine ⟨_, rfl, _, rfl, ?_⟩
      cases ao with
      | none =>
        refine ret_plain rfl fun W' _ => ?_
        rw [hdef]
        exact ⟨_, rfl, hnil W'⟩
      | some l =>
        have hu := hu l rfl
        obtain ⟨A2, c2, rfl, _, _⟩ := hu.form
        refine call_v rfl (fun W' lw => settle_x c hS l (hL l rfl) (hE l rfl) a W' (hidx.mono (l5.trans (l6.trans lw))) _ (hu.mono lw)) (fun W7 v W8 l7 l8 hv => ?_)
        obtain ⟨u, rfl, hn⟩ := hv
        dsimp only at hdef
        obtain ⟨so, hso⟩ : ∃ so, settleS c l = so := ⟨_, rfl⟩
        rw [hso] at hdef hn ⊢
        refine ⟨_, rfl, _, rfl, ?_⟩
        cases so with
        | none =>
          refine ret_plain rfl fun W' _ => ?_
          rw [hdef]
          exact ⟨_, rfl, hnil W'⟩
        | some n =>
          refine ret_plain rfl fun W' l' => ?_
          rw [hdef]
          exact ⟨_, rfl, RL.mono (fun W W' x c l h => let ⟨u, e, h⟩ := h; ⟨u, e, h.mono l⟩) l' (hn n rfl)⟩
end Go.Proofs.YtcgbcbdgjhnlaaaGreat

/- The engine: maps that a call makes, knows as they stand now, and leaves alone at last. -/
namespace Go.Proofs.YtcgbcbdgjhnlaaaGreat
open Go.RowKit Go.Maps

section
variable {P : Program} {B : Base}
/-- Later, with what stood at that time (but for one block) still standing. -/
structure PW.Ex (W W' : PW) (x : Option Nat) : Prop where
  le : W.Le W'
  ex : ∀ b, W.A b → some b ≠ x → W'.A b ∧ W'.w.heap[b]? = W.w.heap[b]?
  fr : ∀ b, W'.F b → W.F b
/-- A block that is known as it stands, new since the call began, and may still be written. -/
def PW.Now (B : Base) (W : PW) (g : Nat) : Prop := W.A g ∧ ¬ W.F g ∧ B.W.w.heap.size ≤ g
theorem PW.Ex.now {W W' : PW} {x : Option Nat} {g : Nat} (h : PW.Ex W W' x) (hg : PW.Now B W g) (hx : some g ≠ x) : PW.Now B W' g ∧ W'.w.heap[g]? = W.w.heap[g]? :=
  ⟨⟨(h.ex g hg.1 hx).1, fun hf => hg.2.1 (h.fr g hf), hg.2.2⟩, (h.ex g hg.1 hx).2⟩
theorem ownsMap_same {W W' : PW} {k : TypeId} {R : Value → Option (DataW Unit × List MemPlace)} {g n : Nat} {D : DataW Unit} (h : W.w.ownsMap (H := Unit) P k R g n D) (e : W'.w.heap[g]? = W.w.heap[g]?) : W'.w.ownsMap (H := Unit) P k R g n D := by
  obtain ⟨es, clock, k1, k2⟩ := h
  exact ⟨es, clock, e.trans k1, k2⟩
/-- The world after one block, known or new, was written. -/
def PW.turn (W : PW) (w' : World) (g : Nat) (hl : ∀ b, W.A b ∨ b = g → b < w'.heap.size) : PW := ⟨w', fun b => W.A b ∨ b = g, hl, W.F, fun b hb => .inl (W.fa b hb)⟩
theorem St.turn {ρ : Nat → Nat} {S : GS} {w : World} (h : St B ρ S w) {w' : World} {g : Nat} (hg : w.grownBy w' (some g)) (hl : g < w'.heap.size) (hB : B.W.w.heap.size ≤ g) (hF : ¬ S.W.F g) (hρ : ∀ k, k < S.σ.length → ρ k ≠ g)
    (hO : ∀ (i : Nat) (o : Own), S.O[i]? = some o → o.v.ownBlock ≠ some g) :
    ∃ hl' : ∀ b, S.W.A b ∨ b = g → b < w'.heap.size, PW.Ex S.W (S.W.turn w' g hl') (some g) ∧ PW.Now B (S.W.turn w' g hl') g ∧ St B ρ ⟨S.σ, S.O, S.W.turn w' g hl'⟩ w' := by
  have hs := hg.size
  have hne : ∀ b, b ≠ g → some b ≠ some g := fun b hb e => hb (Option.some.inj e)
  have hl' : ∀ b, S.W.A b ∨ b = g → b < w'.heap.size := fun b hb => hb.elim (fun hA => Nat.lt_of_lt_of_le (h.A_lt hA) hs) (fun e => e ▸ hl)
  have hle : S.W.Le (S.W.turn w' g hl') := ⟨Nat.le_trans h.vsize hs, fun _ hb => hb, fun b hb => (hg.block b (h.A_lt (S.W.fa b hb)) (hne b fun e => hF (e ▸ hb))).trans (h.vblock b (S.W.fa b hb))⟩
  refine ⟨hl', ⟨hle, fun b hb hx => ⟨.inl hb, (hg.block b (h.A_lt hb) hx).trans (h.vblock b hb)⟩, fun _ hb => hb⟩, ⟨.inr rfl, hF, hB⟩, ?_⟩
  refine ⟨⟨hg.os.trans h.keep.os, hg.tape.trans h.keep.tape, hg.output.trans h.keep.output, Nat.le_trans h.keep.size hs, fun b hb hn => ?_⟩, Nat.le_refl _, fun _ _ => rfl, h.mono.trans hle, fun b hb => hb.elim (h.back b) (fun e => .inr (e ▸ hB)), fun k cs hk => ?_, fun k hk => ⟨fun hA => hA.elim (h.locA k hk).1 (hρ k hk), (h.locA k hk).2⟩, h.inj, h.cells, h.rc, fun i o hi => ?_, h.sep⟩
  · exact (hg.block b (Nat.lt_of_lt_of_le hb h.keep.size) (hne b (by omega))).trans (h.keep.block b hb hn)
  · obtain ⟨e, he⟩ := h.loc k cs hk
    exact ⟨e, (hg.block _ (heap_lt he) (hne _ (hρ k (List.getElem?_eq_some_iff.1 hk).1))).trans he⟩
  · obtain ⟨g1, g2⟩ := h.own i o hi
    exact ⟨g1.kept hg (.inr (hO i o hi)), fun b hb => ⟨fun hA => hA.elim (g2 b hb).1 fun e => hO i o hi (e ▸ hb), (g2 b hb).2⟩⟩
theorem raw_make {o : Oper} {t : TypeId} {f : Fr} {prot : List Nat} {S : GS} {K : GV → GS → Prop} (ho : o.op = .makeMap t none)
    (hK : ∀ (W' : PW) (g : Nat), PW.Ex S.W W' none → PW.Now B W' g → ¬ S.W.A g → (∀ (k : TypeId) (R : Value → Option (DataW Unit × List MemPlace)), W'.w.ownsMap (H := Unit) P k R g 0 (.map [])) → K (.v (.map (some g))) ⟨S.σ, S.O, W'⟩) : RawVC P B o f prot S K := by
  refine ⟨fun ρ w ev hev hst => ?_⟩
  obtain ⟨dst, op, type, pos, after, guard⟩ := o
  obtain rfl : op = .makeMap t none := ho
  have hnA : ¬ S.W.A w.heap.size := fun h => Nat.lt_irrefl _ (hst.A_lt h)
  obtain ⟨hl', h1, h2, h3⟩ := hst.turn (g := w.heap.size) (World.grownBy_alloc w (.map #[] 0) _) (by simp) hst.keep.size (fun h => hnA (S.W.fa _ h)) (fun k hk e => by have := hst.loc_lt hk; omega) (fun i o hi e => by have := hst.own_lt hi e; omega)
  refine ⟨.v (.map (some w.heap.size)), ⟨S.σ, S.O, S.W.turn _ w.heap.size hl'⟩, ρ, _, .inl ?_, fun _ _ => rfl, ⟨Nat.le_refl _, h1.le, ⟨fun _ _ => rfl, fun _ _ _ h => h⟩⟩, trivial, h3, hK _ _ ⟨h1.le, fun b hb _ => h1.ex b hb fun e => hnA (Option.some.inj e ▸ hb), h1.fr⟩ h2 hnA fun k R => World.ownsMap_made w P k R⟩
  rfl
theorem raw_put {o : Oper} {t k e : TypeId} {m x v : Operand} {g n : Nat} {D : DataW Unit} {R : Value → Option (DataW Unit × List MemPlace)} {key val : Value} {kl : Lit} {d : DataW Unit} {ps : List MemPlace} {f : Fr} {prot : List Nat} {S : GS} {K : GV → GS → Prop}
    (ho : o.op = .mapUpdate t m x v) (hKd : Keyed P k) (ht : P.underlying t = some (.map k e)) (hm : evG f m = .v (.map (some g))) (hx : ∀ ρ, (evG f x).real ρ = key) (hv : ∀ ρ, (evG f v).real ρ = val) (hkey : keyOf P k key = some kl) (hval : R val = some (d, ps)) (hn : n < maxLen)
    (hg : PW.Now B S.W g) (hM : S.W.w.ownsMap (H := Unit) P k R g n D)
    (hK : ∀ W' : PW, PW.Ex S.W W' (some g) → PW.Now B W' g → W'.w.ownsMap (H := Unit) P k R g (n + 1) (D.put kl d) → K (.v undef) ⟨S.σ, S.O, W'⟩) : RawVC P B o f prot S K := by
  refine ⟨fun ρ w ev hev hst => ?_⟩
  obtain ⟨dst, op, type, pos, after, guard⟩ := o
  obtain rfl : op = .mapUpdate t m x v := ho
  have e1 : ev m = .map (some g) := by rw [hev, hm]; rfl
  have e2 : ev x = key := by rw [hev, hx]
  have e3 : ev v = val := by rw [hev, hv]
  have hown : w.ownsMap (H := Unit) P k R g n D := by
    obtain ⟨es, clock, k1, k2⟩ := hM
    exact ⟨es, clock, (hst.vblock _ hg.1).trans k1, k2⟩
  obtain ⟨w', hrun, hown', hgrow⟩ := hown.update hKd ht hn hkey hval
  obtain ⟨hl', h1, h2, h3⟩ := hst.turn (g := g) hgrow hown'.lt hg.2.2 hg.2.1 (fun k hk e => (hst.locA k hk).1 (e ▸ hg.1)) (fun i o hi e => ((hst.own i o hi).2 g e).1 hg.1)
  refine ⟨.v undef, ⟨S.σ, S.O, S.W.turn w' g hl'⟩, ρ, w', .inr ⟨?_, rfl⟩, fun _ _ => rfl, ⟨Nat.le_refl _, h1.le, ⟨fun _ _ => rfl, fun _ _ _ h => h⟩⟩, trivial, h3, hK _ h1 h2 hown'⟩
  simp only [execOp, e1, e2, e3, Sem.run_bind, hrun, Result.andThen_ok, Sem.run_pure]
/-- A return of a pointer to one of the call's own variables; a map that was known stays as it is. -/
theorem ret_lp {k g : Nat} {cs : List PV} {vs : List Value} {x : Value} {R : Value → PW → Prop} {S : GS} (hex : B.ex = []) (hk : S.σ[k]? = some cs) (hp : plainCells cs = some vs) (hg : PW.Now B S.W g)
    (hR : ∀ (a : Addr) (W' : PW), S.W.Le W' → W'.F g → W'.w.heap[g]? = S.W.w.heap[g]? → Rds W' a vs → R (.tuple ⟨[.pointer (some a), x]⟩) W') : RetVC B [.lp k 0, .v x] R S := by
  refine ⟨fun ρ w hst => ?_⟩
  have hkl := (List.getElem?_eq_some_iff.1 hk).1
  obtain ⟨e, he⟩ := hst.loc k cs hk
  rw [plain_real ρ hp] at he
  have hlt := hst.loc_lt hkl
  let W' : PW := ⟨w, fun b => S.W.A b ∨ b = ρ k, fun b hb => hb.elim (fun h => hst.A_lt h) (fun e => e ▸ hlt), fun b => S.W.F b ∨ b = g ∨ b = ρ k, fun b hb => hb.elim (fun h => .inl (S.W.fa b h)) fun h => h.elim (fun e => .inl (e ▸ hg.1)) .inr⟩
  have hle : S.W.Le W' := ⟨hst.vsize, fun b hb => .inl hb, fun b hb => hst.vblock b (S.W.fa b hb)⟩
  refine ⟨W', rfl, ⟨hst.keep, hst.mono.trans hle, fun b hb => hb.elim (hst.back b) fun e => ?_⟩, hR ⟨ρ k, 0, none⟩ W' hle (.inr (.inl rfl)) (hst.vblock g hg.1) ?_⟩
  · rcases (hst.locA k hkl).2 with h | h
    · rw [hex] at h; cases h
    · exact .inr (e ▸ h)
  · intro j v hj
    rw [add_lit, Nat.zero_add]
    refine ⟨.inr (.inr rfl), ?_⟩
    simp [World.cell?, W', he, hj]
end
end Go.Proofs.YtcgbcbdgjhnlaaaGreat
