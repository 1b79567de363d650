/- Layer 18 (strata), walked: the edges of one relation. -/
import Derived.Test.YtcgbcbdgjhnlaaaGreatXMA
import Derived.Test.YtcgbcbdgjhnlaaaGreatXStrO
namespace Go.Proofs.YtcgbcbdgjhnlaaaGreat
open Go.RowKit

theorem namedT_len {c : ConfS} (hS : SmC c) {s : Spot} {r : RelS} (hr : relAt c s = some r) {n : NodeS} {l : List TypS} (h : namedT c s r n = some l) : l.length ≤ 1000 := by
  unfold namedT at h
  split at h
  · cases h
    obtain ⟨sp, _, _, h1, h2⟩ := relAt_mem hr
    exact Nat.le_trans (setsS_len _) ((hS.1 sp h1).2 r h2).2.1
  · split at h
    · cases h; show 1 ≤ 1000; omega
    · split at h
      · split at h
        · cases h
        · rename_i p _
          split at h
          · cases h
          · rename_i q hq
            obtain ⟨sp, _, _, h1, h2⟩ := relAt_mem hq
            split at h
            · cases h
            · cases h
              unfold arrowT
              rw [List.length_map]
              exact Nat.le_trans (setsS_len _) ((hS.1 sp h1).2 q h2).2.1
      · cases h; exact Nat.zero_le _
theorem namedS_len {c : ConfS} (hS : SmC c) {s : Spot} {r : RelS} (hr : relAt c s = some r) {n : NodeS} {l : List Spot} (h : namedS c s r n = some l) : l.length ≤ 1000 := by
  unfold namedS at h
  split at h
  · cases h
  · rename_i t ht
    exact Nat.le_trans (findUp_len h) (namedT_len hS hr ht)
def edgeAt (s : Spot) (ab : Bool) (t : Spot) : EdgeS := ⟨s, t, ab⟩
theorem edgesUp_some {c : ConfS} {s : Spot} {r : RelS} {i : Nat} {out : List EdgeS} {n : NodeS} {l : List Spot} (h : edgesUp c s r i = some out) (hn : r.nodes[i]? = some n) (hl : namedS c s r n = some l) : edgesUp c s r (i + 1) = some (out ++ l.map (edgeAt s ((absS r.nodes).getD i false))) := by
  rw [edgesUp, h, hn]
  dsimp only
  rw [hl]
  rfl
theorem edgesUp_none {c : ConfS} {s : Spot} {r : RelS} {i : Nat} (h : edgesUp c s r i = none) : ∀ {j : Nat}, i ≤ j → edgesUp c s r j = none
  | 0, hj => by obtain rfl : i = 0 := by omega
                exact h
  | j + 1, hj => by
    by_cases e : i = j + 1
    · rw [← e]; exact h
    · rw [edgesUp, edgesUp_none h (j := j) (by omega)]
theorem edgesUp_no {c : ConfS} {s : Spot} {r : RelS} {i : Nat} {out : List EdgeS} {n : NodeS} (h : edgesUp c s r i = some out) (hn : r.nodes[i]? = some n) (hl : namedS c s r n = none) : edgesUp c s r r.nodes.length = none := by
  refine edgesUp_none (i := i + 1) ?_ (Nat.succ_le_of_lt (List.getElem?_eq_some_iff.1 hn).1)
  rw [edgesUp, h, hn]
  dsimp only
  rw [hl]
theorem edgesUp_len {c : ConfS} (hS : SmC c) {s : Spot} {r : RelS} (hr : relAt c s = some r) : ∀ {i : Nat} {out : List EdgeS}, edgesUp c s r i = some out → out.length ≤ 1000 * i
  | 0, out, h => by cases h; exact Nat.le_refl _
  | i + 1, out, h => by
    rw [edgesUp] at h
    split at h
    · rename_i o n h1 h2
      have := edgesUp_len hS hr h1
      split at h
      · rename_i l hl
        have := namedS_len hS hr hl
        cases h; rw [List.length_append, List.length_map]; omega
      · cases h
    · rename_i o h1 h2
      have := edgesUp_len hS hr h1
      cases h; omega
    · cases h
theorem edgesS_len {c : ConfS} (hS : SmC c) {s : Spot} {out : List EdgeS} (h : edgesS c s = some out) : out.length ≤ 1000000 := by
  unfold edgesS at h
  split at h
  · cases h
  · rename_i r hr
    split at h
    · cases h
    · have := edgesUp_len hS hr h
      obtain ⟨sp, _, _, h1, h2⟩ := relAt_mem hr
      have := ((hS.1 sp h1).2 r h2).2.2.1
      omega

theorem absGo_len (l : List NodeS) : ∀ (i : Nat) (out : List Bool), (absGo l i out).length = out.length
  | 0, _ => rfl
  | i + 1, out => by
    rw [absGo, absGo_len l i]
    split
    · exact absStep_len _ _ _
    · rfl
theorem absS_len (l : List NodeS) : (absS l).length = l.length := by unfold absS; rw [absGo_len, List.length_replicate]

def edgeC (e : EdgeS) : List Value := [.int .i64 e.fs.1, .int .i64 e.fs.2, .int .i64 e.ts.1, .int .i64 e.ts.2, .bool e.ab]
def edgeO (v : Value) (l : List EdgeS) : Own := ⟨v, 141, 5, l.length, (l.map edgeC).flatten⟩
theorem edgeO_snoc (A : Option Addr) (c : Nat) (l : List EdgeS) (x : EdgeS) : (⟨.slice A (l.length + 1) c, 141, 5, l.length + 1, (l.map edgeC).flatten ++ edgeC x⟩ : Own) = edgeO (.slice A (l ++ [x]).length c) (l ++ [x]) := by
  unfold edgeO
  rw [List.length_append, flat_snoc]; rfl
theorem edgeC_one (s : EdgeS) : ∀ u ∈ edgeC s, u.oneCell' = true := by
  intro u hu
  simp only [edgeC, List.mem_cons, List.not_mem_nil, or_false] at hu
  rcases hu with rfl | rfl | rfl | rfl | rfl <;> rfl
def OptE (W : PW) (v : Value) (o : Option (List EdgeS)) : Prop := ∃ u, v = .tuple ⟨[u, .bool o.isSome]⟩ ∧ ∀ l, o = some l → RP edgeC W u l
structure FoSt where
  i : Nat
structure EdSt where
  i : Nat
  A : Option Addr
  c : Nat
  l : List EdgeS
set_option maxRecDepth 20000 in
set_option maxHeartbeats 16000000 in
theorem edges_x (c : ConfS) (hS : SmC c) (s : Spot) (r : RelS) (hr : relAt c s = some r) (a : Addr) (W : PW) (h : Idx W a c) :
    CallsX Tryz.prog 63 ⟨[.pointer (some a), .agg ⟨spotC s⟩]⟩ [] W fun v W' => OptE W' v (edgesS c s) := by
  have hmax : (100000000000000 : Nat) ≤ maxLen := by decide
  obtain ⟨sp, hsp, hnm, hspm, hrm⟩ := relAt_mem hr
  obtain ⟨sm1, sm2⟩ := hS.1 sp hspm
  obtain ⟨sm3, sm4, sm5, sm6, sm7⟩ := sm2 r hrm
  have hidx := h
  obtain ⟨sv, kv, g, i1, i2, i3, i4⟩ := h
  obtain ⟨R, hR⟩ : ∃ R, edgesS c s = R := ⟨_, rfl⟩
  have hdef : R = match findAll c (setsS r.types) with | none => none | some _ => edgesUp c s r r.nodes.length := by rw [← hR]; unfold edgesS; rw [hr]; rfl
  rw [hR]
  refine pureNX hmix Tryz.func63 r63 (by kernel_rfl) [nilO 141 5] rfl [.pointer (some a), .agg ⟨spotC s⟩] rfl ?_
  refine call_v rfl (fun W' lw => rel_x c s r hr a W' (hidx.mono lw)) (fun W3 v W1 l3 l4 hv => ?_)
  obtain ⟨cs, rfl, tv, nv, rfl, hT, hN⟩ := hv
  have l1 : W.Le W1 := l3.trans l4
  obtain ⟨A2, c2, rfl, _, _⟩ := hT.form
  obtain ⟨A3, c3, rfl, _, _⟩ := hN.form
  refine call_v rfl (fun W' lw => sets_x r.types _ W' (hT.mono lw) (Nat.le_trans sm4 (by omega))) (fun W4 v W5 l5 l6 hv => ?_)
  obtain ⟨A5, c5, rfl, _, _⟩ := hv.form
  have hql := Nat.le_trans (setsS_len r.types) sm4
  obtain ⟨ts, hts⟩ : ∃ ts, setsS r.types = ts := ⟨_, rfl⟩
  have htsm : ∀ t ∈ ts, smT t := fun t ht => sm6 t (by rw [← hts] at ht; exact (List.mem_filter.1 ht).1)
  rw [hts] at hdef hql hv ⊢
  refine ⟨FoSt, fun t => [(26, .v (.int .i64 t.i))], fun _ => _, fun t => [nilO 141 5], fun t _ => t.i ≤ ts.length ∧ ∃ out, findUp c ts t.i = some out, fun t => ts.length - t.i, ⟨0⟩,
    all_sl ⟨rfl, trivial⟩, rfl, ole_refl _, ⟨Nat.zero_le _, _, rfl⟩, loopOK (fun _ => ⟨⟨trivial, rfl⟩, trivial⟩) (fun _ => rfl) (fun _ => rfl), ?_⟩
  rintro ⟨i⟩ W7 l7 ⟨hi, out, hf⟩ fr2
  dsimp only at hi hf
  refine ⟨rfl, br_split (fun hq => ?_) (fun hq => ?_)⟩
  · have hq : (i : Int) < ts.length := hq
    have inc := (i64_in ((i : Int) + 1) ⟨by omega, by omega⟩).symm
    obtain ⟨a5, rfl, t, ht, _, _, hr5⟩ := RP.at (f := typC) (sz := 2) (fun _ => rfl) hv l7 (j := (i : Int)) ⟨by omega, by omega⟩
    have ht : ts[i]? = some t := ht
    have hst := htsm t (List.mem_of_getElem? ht)
    have hM := i4.mono (l1.trans (l5.trans (l6.trans l7)))
    have hs1 := fun s hs => findUp_some (s := s) hf ht hs
    have hs2 := fun hs => findUp_no hf ht hs
    obtain ⟨fo, hfo⟩ : ∃ fo, findS c t = fo := ⟨_, rfl⟩
    rw [hfo] at hs1 hs2
    have hlook := fun {o : Oper} {m x : Operand} {f : Fr} {prot : List Nat} {S : GS} {K : GV → GS → Prop} => raw_look2 (B := ⟨W, [], []⟩) (o := o) (m := m) (x := x) (g := g) (c := c) (f := f) (prot := prot) (S := S) (K := K) hfo
    clear hfo
    obtain ⟨t1, t2⟩ := t
    refine ⟨⟨by omega, hq⟩, _, rfl, [strV t1, strV t2], rfl, Rds.o hr5, .map (some g), ((i1.mono (l1.trans (l5.trans (l6.trans l7)))) 2 _ rfl).o, ?_⟩
    refine ⟨?_, ?_⟩
    all_goals
      refine hlook rfl rfl (fun _ => rfl) hst hM ?_
      refine ⟨_, rfl, _, rfl, ?_⟩
      cases fo with
      | none =>
        refine ret_plain rfl fun W' _ => ?_
        rw [hdef, hs2 rfl]
        exact ⟨_, rfl, fun l hl => by cases hl⟩
      | some p =>
        obtain ⟨p1, p2⟩ := p
        exact ⟨rfl, _, inc, ⟨i + 1⟩, all_sl ⟨rfl, trivial⟩, rfl, ole_refl _, ⟨by dsimp only; omega, _, hs1 (p1, p2) rfl⟩, by dsimp only; omega⟩
  · have hq : ¬ (i : Int) < ts.length := hq
    obtain rfl : i = ts.length := by omega
    have hf : findAll c ts = some out := hf
    rw [hf] at hdef
    dsimp only at hdef
    have l17 : W1.Le W7 := l5.trans (l6.trans l7)
    refine call_v rfl (fun W' lw => absences_x r.nodes (Nat.le_trans sm5 (by omega)) (fun n hn => (sm7 n hn).2) _ W' (hN.mono (l17.trans lw))) (fun W8 v W9 l8 l9 hab => ?_)
    obtain ⟨A6, c6, rfl, _, _⟩ := hab.form
    have habl := absS_len r.nodes
    have hsome := fun i out n l => edgesUp_some (c := c) (s := s) (r := r) (i := i) (out := out) (n := n) (l := l)
    have hnone := fun i out n => edgesUp_no (c := c) (s := s) (r := r) (i := i) (out := out) (n := n)
    have hlen := fun i out => edgesUp_len hS hr (i := i) (out := out)
    have hnlen := fun n l => namedS_len hS hr (n := n) (l := l)
    obtain ⟨ab, habe⟩ : ∃ ab, absS r.nodes = ab := ⟨_, rfl⟩
    rw [habe] at hab habl hsome ⊢
    refine ⟨EdSt, fun t => [(12, .v (.slice t.A t.l.length t.c)), (48, .v (.int .i64 t.i))], fun _ => _, fun t => [edgeO (.slice t.A t.l.length t.c) t.l], fun t _ => t.i ≤ r.nodes.length ∧ edgesUp c s r t.i = some t.l, fun t => r.nodes.length - t.i, ⟨0, none, 0, []⟩,
      all_sl ⟨rfl, rfl, trivial⟩, rfl, ole_refl _, ⟨Nat.zero_le _, rfl⟩, loopOK (fun _ => ⟨⟨trivial, rfl⟩, ⟨trivial, rfl⟩, trivial⟩) (fun _ => rfl) (fun _ => rfl), ?_⟩
    rintro ⟨i, A, k, l⟩ W10 l10 ⟨hi, hl⟩ fr3
    dsimp only at hi hl
    have l110 : W1.Le W10 := l17.trans (l8.trans (l9.trans l10))
    refine ⟨rfl, br_split (fun hq2 => ?_) (fun hq2 => ?_)⟩
    · have hq2 : (i : Int) < r.nodes.length := hq2
      have inc := (i64_in ((i : Int) + 1) ⟨by omega, by omega⟩).symm
      obtain ⟨a3, rfl, n, hn, _, _, hr3⟩ := RP.at (f := nodeC) (sz := 5) (fun _ => rfl) hN l110 (j := (i : Int)) ⟨by omega, by omega⟩
      have hn : r.nodes[i]? = some n := hn
      have hll := hlen i l hl
      have hs1 := fun l' hs => hsome i l n l' hl hn hs
      have hs2 := fun hs => hnone i l n hl hn hs
      have hs3 := hnlen n
      have hnsm := (sm7 n (List.mem_of_getElem? hn)).1
      have hcall := fun W' lw => named_x c hS s r hr n hnsm a W' (hidx.mono (l1.trans (l110.trans lw)))
      obtain ⟨no, hno⟩ : ∃ no, namedS c s r n = no := ⟨_, rfl⟩
      rw [hno] at hs1 hs2 hs3 hcall
      obtain ⟨k0, nr, nt, na, nb⟩ := n
      refine ⟨⟨by omega, hq2⟩, _, rfl, [.int .i64 k0, strV nr, strV nt, .int .i64 na, .int .i64 nb], rfl, Rds.o hr3, ?_⟩
      refine call_v rfl (fun W' lw => hcall W' lw) (fun W11 v W12 l11 l12 hv => ?_)
      obtain ⟨u, rfl, hu⟩ := hv
      refine ⟨_, rfl, _, rfl, ?_⟩
      cases no with
      | none =>
        refine ret_plain rfl fun W' _ => ?_
        rw [hdef, hs2 rfl]
        exact ⟨_, rfl, fun l hl => by cases hl⟩
      | some m =>
        have hu := hu m rfl
        have hs1 := hs1 m rfl
        have hml := hs3 m rfl
        clear hcall hs2 hs3
        obtain ⟨A9, c9, rfl, _, _⟩ := hu.form
        obtain ⟨b, hb⟩ : ∃ b, ab.getD i false = b := ⟨_, rfl⟩
        rw [hb] at hs1
        have hbg : ∃ A6', A6 = some A6' ∧ ∀ W', W9.Le W' → Rd W' (A6'.add (i * 1)) (.bool b) := by
          obtain ⟨a', e, x, hx, _, _, hr6⟩ := RP.at (f := boolC) (sz := 1) (fun _ => rfl) hab (PW.Le.refl _) (j := (i : Int)) ⟨by omega, by omega⟩
          have hx : ab[i]? = some x := hx
          obtain rfl : x = b := by rw [← hb, List.getD_eq_getElem?_getD, hx]; rfl
          exact ⟨a', e, fun W' lw => (hr6.mono lw) 0 _ rfl⟩
        obtain ⟨a6, rfl, hrd6⟩ := hbg
        refine ⟨EdSt, fun t => [(12, .v (.slice t.A t.l.length t.c)), (64, .v (.int .i64 t.i))], fun _ => _, fun t => [edgeO (.slice t.A t.l.length t.c) t.l], fun t _ => t.i ≤ m.length ∧ t.l = l ++ (m.take t.i).map (edgeAt s b), fun t => m.length - t.i, ⟨0, A, k, l⟩,
          all_sl ⟨rfl, rfl, trivial⟩, rfl, ole_refl _, ⟨Nat.zero_le _, (List.append_nil l).symm⟩, loopOK (fun _ => ⟨⟨trivial, rfl⟩, ⟨trivial, rfl⟩, trivial⟩) (fun _ => rfl) (fun _ => rfl), ?_⟩
        rintro ⟨j, B, kb, q⟩ W13 l13 ⟨hj, hq⟩ fr4
        dsimp only at hj hq
        have hqlen : q.length ≤ l.length + 1000 := by rw [hq, List.length_append, List.length_map, List.length_take]; omega
        refine ⟨rfl, br_split (fun hq3 => ?_) (fun hq3 => ?_)⟩
        · have hq3 : (j : Int) < m.length := hq3
          have inc2 := (i64_in ((j : Int) + 1) ⟨by omega, by omega⟩).symm
          obtain ⟨a9, rfl, t, ht, _, _, hr9⟩ := RP.at (f := spotC) (sz := 2) (fun _ => rfl) hu l13 (j := (j : Int)) ⟨by omega, by omega⟩
          have ht : m[j]? = some t := ht
          have hnext : l ++ (m.take (j + 1)).map (edgeAt s b) = q ++ [edgeAt s b t] := by
            rw [hq, List.take_add_one, ht, List.map_append, List.append_assoc]; rfl
          obtain ⟨t1, t2⟩ := t
          refine ⟨⟨by omega, hq3⟩, _, rfl, [.int .i64 t1, .int .i64 t2], rfl, Rds.o hr9, ?_⟩
          refine ⟨⟨by omega, by show (i : Int) < ab.length; omega⟩, _, rfl, .bool b, (hrd6 _ (l10.trans (l11.trans (l12.trans l13)))).o, ?_⟩
          refine ⟨rfl, .inl fun bd Wd ld hrd => ⟨0, _, edgeC ⟨s, (t1, t2), b⟩, rfl, rfl, rfl, rfl, rfl, edgeC_one _, fun _ => ⟨_, rfl, hrd.o⟩, by show q.length + 1 ≤ maxLen; omega, by show (q.length + 1) * 40 ≤ 140737488355328; omega, rfl, @fun Ae ce _ => ?_⟩⟩
          refine ⟨rfl, _, inc2, ⟨j + 1, Ae, ce, q ++ [edgeAt s b (t1, t2)]⟩, all_sl ⟨?_, rfl, trivial⟩, rfl, ole_eq ?_, ⟨by dsimp only; omega, by dsimp only; rw [hnext]⟩, by dsimp only; omega⟩
          · dsimp only; rw [show (q ++ [edgeAt s b (t1, t2)]).length = q.length + 1 from List.length_append]; rfl
          · exact congrArg (fun z => [z]) (edgeO_snoc Ae ce q (edgeAt s b (t1, t2)))
        · have hq3 : ¬ (j : Int) < m.length := hq3
          rw [List.take_of_length_le (by omega)] at hq
          exact ⟨rfl, _, inc, ⟨i + 1, B, kb, q⟩, all_sl ⟨rfl, rfl, trivial⟩, rfl, ole_refl _, ⟨by dsimp only; omega, by dsimp only; rw [hq]; exact hs1⟩, by dsimp only; omega⟩
    · have hq2 : ¬ (i : Int) < r.nodes.length := hq2
      obtain rfl : i = r.nodes.length := by omega
      rw [hl] at hdef
      subst hdef
      refine RetVC.freeze (fun _ hb => hb) (i := 0) rfl fun Wm lm hs0 => ?_
      exact ret_plain rfl fun W' l' => ⟨_, rfl, fun q hq => by cases hq; exact SlRead.mono hs0 l'⟩
end Go.Proofs.YtcgbcbdgjhnlaaaGreat

/- Layer 18 (strata), walked: all edges. -/
namespace Go.Proofs.YtcgbcbdgjhnlaaaGreat
open Go.RowKit

theorem relsUp_none {c : ConfS} {x i : Nat} (h : relsUp c x i = none) : ∀ {j : Nat}, i ≤ j → relsUp c x j = none
  | 0, hj => by obtain rfl : i = 0 := by omega
                exact h
  | j + 1, hj => by
    by_cases e : i = j + 1
    · rw [← e]; exact h
    · rw [relsUp, relsUp_none h (j := j) (by omega)]
theorem spacesUp_none {c : ConfS} {i : Nat} (h : spacesUp c i = none) : ∀ {j : Nat}, i ≤ j → spacesUp c j = none
  | 0, hj => by obtain rfl : i = 0 := by omega
                exact h
  | j + 1, hj => by
    by_cases e : i = j + 1
    · rw [← e]; exact h
    · rw [spacesUp, spacesUp_none h (j := j) (by omega)]
theorem relsUp_some {c : ConfS} {x k : Nat} {out l : List EdgeS} (h : relsUp c x k = some out) (hl : edgesS c (x, k) = some l) : relsUp c x (k + 1) = some (out ++ l) := by
  rw [relsUp, h, hl]
theorem relsUp_no {c : ConfS} {x k n : Nat} (hl : edgesS c (x, k) = none) (hk : k < n) : relsUp c x n = none := by
  refine relsUp_none (i := k + 1) ?_ hk
  rw [relsUp, hl]
  cases relsUp c x k <;> rfl
theorem spacesUp_some {c : ConfS} {i : Nat} {out l : List EdgeS} {s : SpaceS} (h : spacesUp c i = some out) (hs : c.spaces[i]? = some s) (hl : relsUp c i s.rels.length = some l) : spacesUp c (i + 1) = some (out ++ l) := by
  rw [spacesUp, h, hs]
  dsimp only
  rw [hl]
theorem spacesUp_no {c : ConfS} {i : Nat} {out : List EdgeS} {s : SpaceS} (h : spacesUp c i = some out) (hs : c.spaces[i]? = some s) (hl : relsUp c i s.rels.length = none) : spacesUp c c.spaces.length = none := by
  refine spacesUp_none (i := i + 1) ?_ (Nat.succ_le_of_lt (List.getElem?_eq_some_iff.1 hs).1)
  rw [spacesUp, h, hs]
  dsimp only
  rw [hl]
theorem relsUp_len {c : ConfS} (hS : SmC c) {x : Nat} : ∀ {k : Nat} {out : List EdgeS}, relsUp c x k = some out → out.length ≤ 1000000 * k
  | 0, out, h => by cases h; exact Nat.le_refl _
  | k + 1, out, h => by
    rw [relsUp] at h
    split at h
    · rename_i o l h1 h2
      have := relsUp_len hS h1
      have := edgesS_len hS h2
      cases h
      rw [List.length_append]; omega
    · cases h
theorem spacesUp_len {c : ConfS} (hS : SmC c) : ∀ {i : Nat} {out : List EdgeS}, spacesUp c i = some out → out.length ≤ 1000000000 * i
  | 0, out, h => by cases h; exact Nat.le_refl _
  | i + 1, out, h => by
    rw [spacesUp] at h
    split at h
    · rename_i o s h1 h2
      have := spacesUp_len hS h1
      have := hS.2.2.2.1 s (List.mem_of_getElem? h2)
      split at h
      · rename_i l hl
        have := relsUp_len hS hl
        cases h; rw [List.length_append]; omega
      · cases h
    · rename_i o h1 h2
      have := spacesUp_len hS h1
      cases h; omega
    · cases h
theorem edgesS_rel {c : ConfS} {x k : Nat} {sp : SpaceS} (h : c.spaces[x]? = some sp) (hk : k < sp.rels.length) : ∃ r, relAt c (x, k) = some r := by
  unfold relAt
  rw [h]
  exact ⟨sp.rels[k], List.getElem?_eq_getElem hk⟩

theorem edges_flat (l : List EdgeS) : ((l.map edgeC).flatten).length = l.length * 5 := by
  induction l with
  | nil => rfl
  | cons b l ih => rw [List.map_cons, List.flatten_cons, List.length_append, ih, List.length_cons]; show 5 + _ = _; omega
theorem edgeO_app (A : Option Addr) (c : Nat) (l m : List EdgeS) : (⟨.slice A (l.length + m.length) c, 141, 5, l.length + m.length, (l.map edgeC).flatten ++ (m.map edgeC).flatten⟩ : Own) = edgeO (.slice A (l ++ m).length c) (l ++ m) := by
  unfold edgeO
  rw [List.length_append, List.map_append, List.flatten_append]
set_option maxRecDepth 20000 in
set_option maxHeartbeats 16000000 in
theorem all_x (c : ConfS) (hS : SmC c) (a : Addr) (W : PW) (h : Idx W a c) :
    CallsX Tryz.prog 42 ⟨[.pointer (some a)]⟩ [] W fun v W' => OptE W' v (allE c) := by
  have hmax : (100000000000000 : Nat) ≤ maxLen := by decide
  have hidx := h
  obtain ⟨sv, kv, g, i1, i2, i3, i4⟩ := h
  obtain ⟨R, hR⟩ : ∃ R, allE c = R := ⟨_, rfl⟩
  have hdef : R = match spacesUp c c.spaces.length with | none => none | some l => if c.scopes.all (fun s => (findS c (scopeKey s)).isSome) = true then some l else none := by rw [← hR]; rfl
  rw [hR]
  obtain ⟨A0, c0, rfl, _, _⟩ := i2.form
  obtain ⟨A4, c4, rfl, _, _⟩ := i3.form
  have hN := hS.2.2.1
  have hK := hS.2.2.2.2
  refine pureNX hmix Tryz.func42 r42 (by kernel_rfl) [nilO 141 5] rfl [.pointer (some a)] rfl ?_
  refine ⟨.slice A0 c.spaces.length c0, (rd_ff i1 (i := 0) (j := 0) rfl).o, ?_⟩
  refine ⟨EdSt, fun t => [(4, .v (.slice t.A t.l.length t.c)), (20, .v (.int .i64 t.i))], fun _ => _, fun t => [edgeO (.slice t.A t.l.length t.c) t.l], fun t _ => t.i ≤ c.spaces.length ∧ spacesUp c t.i = some t.l, fun t => c.spaces.length - t.i, ⟨0, none, 0, []⟩,
    all_sl ⟨rfl, rfl, trivial⟩, rfl, ole_refl _, ⟨Nat.zero_le _, rfl⟩, loopOK (fun _ => ⟨⟨trivial, rfl⟩, ⟨trivial, rfl⟩, trivial⟩) (fun _ => rfl) (fun _ => rfl), ?_⟩
  rintro ⟨i, A, k, l⟩ W1 l1 ⟨hi, hl⟩ fr
  dsimp only at hi hl
  have hll := spacesUp_len hS hl
  refine ⟨rfl, br_split (fun hq => ?_) (fun hq => ?_)⟩
  · have hq : (i : Int) < c.spaces.length := hq
    have inc := (i64_in ((i : Int) + 1) ⟨by omega, by omega⟩).symm
    obtain ⟨a0, rfl, sp, cs0, hsp, hc0, hR0, _, hr0⟩ := RL.at SpR.mono i2 l1 (j := (i : Int)) ⟨by omega, by omega⟩
    have hsp : c.spaces[i]? = some sp := hsp
    have hrl := hS.2.2.2.1 sp (List.mem_of_getElem? hsp)
    have hs1 := fun m hm => spacesUp_some (l := m) hl hsp hm
    have hs2 := fun hm => spacesUp_no hl hsp hm
    obtain ⟨rv, rfl, hrels⟩ := hR0
    obtain ⟨A1, c1, rfl, _, _⟩ := hrels.form
    refine ⟨⟨by omega, hq⟩, _, rfl, [strV sp.name, .slice A1 sp.rels.length c1], rfl, Rds.o hr0, ?_⟩
    refine ⟨EdSt, fun t => [(4, .v (.slice t.A t.l.length t.c)), (28, .v (.int .i64 t.i))], fun _ => _, fun t => [edgeO (.slice t.A t.l.length t.c) t.l], fun t _ => t.i ≤ sp.rels.length ∧ ∃ m, relsUp c i t.i = some m ∧ t.l = l ++ m, fun t => sp.rels.length - t.i, ⟨0, A, k, l⟩,
      all_sl ⟨rfl, rfl, trivial⟩, rfl, ole_refl _, ⟨Nat.zero_le _, [], rfl, (List.append_nil l).symm⟩, loopOK (fun _ => ⟨⟨trivial, rfl⟩, ⟨trivial, rfl⟩, trivial⟩) (fun _ => rfl) (fun _ => rfl), ?_⟩
    rintro ⟨j, B, kb, q⟩ W2 l2 ⟨hj, m, hm, hqe⟩ fr2
    dsimp only at hj hm hqe
    have hml := relsUp_len hS hm
    have hqlen : q.length = l.length + m.length := by rw [hqe, List.length_append]
    refine ⟨rfl, br_split (fun hq2 => ?_) (fun hq2 => ?_)⟩
    · have hq2 : (j : Int) < sp.rels.length := hq2
      have inc2 := (i64_in ((j : Int) + 1) ⟨by omega, by omega⟩).symm
      obtain ⟨r, hr⟩ := edgesS_rel (k := j) hsp (by omega)
      have hcall := fun W' lw => edges_x c hS (i, j) r hr a W' (hidx.mono (l1.trans (PW.Le.trans l2 lw)))
      have hr1 := fun e he => relsUp_some (l := e) hm he
      have hr2 := fun he => relsUp_no (n := sp.rels.length) (c := c) (x := i) (k := j) he (by omega)
      have hr3 := fun e he => edgesS_len (out := e) hS (s := (i, j)) he
      obtain ⟨eo, heo⟩ : ∃ eo, edgesS c (i, j) = eo := ⟨_, rfl⟩
      rw [heo] at hr1 hr2 hr3 hcall
      refine call_v rfl (fun W' lw => hcall W' lw) (fun W3 v W4 l3 l4 hv => ?_)
      obtain ⟨u, rfl, hu⟩ := hv
      refine ⟨_, rfl, _, rfl, ?_⟩
      cases eo with
      | none =>
        refine ret_plain rfl fun W' _ => ?_
        rw [hdef, hs2 (hr2 rfl)]
        exact ⟨_, rfl, fun l hl => by cases hl⟩
      | some e =>
        have hu := hu e rfl
        have hr1 := hr1 e rfl
        have hr3 := hr3 e rfl
        clear hcall hr2
        obtain ⟨A9, c9, rfl, _, _⟩ := hu.form
        obtain ⟨_, _, e9, _, _, hu4⟩ := hu
        have hu4 : 0 < e.length → ∃ a, A9 = some a ∧ Rds W4 a (e.map edgeC).flatten := by cases e9; exact hu4
        refine ⟨0, _, (e.map edgeC).flatten, rfl, rfl, rfl, rfl, edges_flat e, flat_one edgeC_one e, fun h0 => let ⟨a9, h9, h10⟩ := hu4 h0; ⟨a9, h9, Rds.o h10⟩, by show q.length + e.length ≤ maxLen; omega, by show (q.length + e.length) * 40 ≤ 140737488355328; omega, rfl, @fun Ae ce _ => ?_⟩
        refine ⟨rfl, _, inc2, ⟨j + 1, Ae, ce, q ++ e⟩, all_sl ⟨?_, rfl, trivial⟩, rfl, ole_eq ?_, ⟨by dsimp only; omega, m ++ e, hr1, by dsimp only; rw [hqe, List.append_assoc]⟩, by dsimp only; omega⟩
        · dsimp only; rw [show (q ++ e).length = q.length + e.length from List.length_append]; rfl
        · exact congrArg (fun z => [z]) (edgeO_app Ae ce q e)
    · have hq2 : ¬ (j : Int) < sp.rels.length := hq2
      obtain rfl : j = sp.rels.length := by omega
      exact ⟨rfl, _, inc, ⟨i + 1, B, kb, q⟩, all_sl ⟨rfl, rfl, trivial⟩, rfl, ole_refl _, ⟨by dsimp only; omega, by dsimp only; rw [hqe]; exact hs1 m hm⟩, by dsimp only; omega⟩
  · have hq : ¬ (i : Int) < c.spaces.length := hq
    obtain rfl : i = c.spaces.length := by omega
    rw [hl] at hdef
    dsimp only at hdef
    refine ⟨.slice A4 c.scopes.length c4, (rd_ff (i1.mono l1) (i := 0) (j := 1) rfl).o, ?_⟩
    refine ⟨FoSt, fun t => [(52, .v (.int .i64 t.i))], fun _ => _, fun t => [edgeO (.slice A l.length k) l], fun t _ => t.i ≤ c.scopes.length ∧ ∀ s ∈ c.scopes.take t.i, (findS c (scopeKey s)).isSome = true, fun t => c.scopes.length - t.i, ⟨0⟩,
      all_sl ⟨rfl, trivial⟩, rfl, ole_refl _, ⟨Nat.zero_le _, fun s hs => by cases hs⟩, loopOK (fun _ => ⟨⟨trivial, rfl⟩, trivial⟩) (fun _ => rfl) (fun _ => rfl), ?_⟩
    rintro ⟨i⟩ W5 l5 ⟨hi, hf⟩ fr2
    dsimp only at hi hf
    refine ⟨rfl, br_split (fun hq => ?_) (fun hq => ?_)⟩
    · have hq : (i : Int) < c.scopes.length := hq
      have inc := (i64_in ((i : Int) + 1) ⟨by omega, by omega⟩).symm
      obtain ⟨a5, rfl, s, hs, _, _, hr5⟩ := RP.at (f := scopeC) (sz := 4) (fun _ => rfl) i3 (l1.trans l5) (j := (i : Int)) ⟨by omega, by omega⟩
      have hs : c.scopes[i]? = some s := hs
      have hsm := hS.2.1 s (List.mem_of_getElem? hs)
      have hst : smT (scopeKey s) := ⟨hsm.2.1.1, hsm.2.2⟩
      have hM := i4.mono (l1.trans l5)
      have hs1 : (findS c (scopeKey s)).isSome = true → ∀ s ∈ c.scopes.take (i + 1), (findS c (scopeKey s)).isSome = true := fun h s' hs' => by
        rw [List.take_add_one, hs] at hs'
        rcases List.mem_append.1 hs' with hs' | hs'
        · exact hf s' hs'
        · rw [List.mem_singleton.1 hs']; exact h
      have hs2 : findS c (scopeKey s) = none → R = none := fun h => by
        rw [hdef, if_neg]
        intro h2
        have := List.all_eq_true.1 h2 s (List.mem_of_getElem? hs)
        rw [h] at this
        exact absurd this (by decide)
      obtain ⟨fo, hfo⟩ : ∃ fo, findS c (scopeKey s) = fo := ⟨_, rfl⟩
      rw [hfo] at hs1 hs2
      have hlook := fun {o : Oper} {m x : Operand} {f : Fr} {prot : List Nat} {S : GS} {K : GV → GS → Prop} => raw_look2 (B := ⟨W, [], []⟩) (o := o) (m := m) (x := x) (g := g) (c := c) (f := f) (prot := prot) (S := S) (K := K) hfo
      clear hfo
      obtain ⟨n, ⟨osp, oid⟩, rl⟩ := s
      refine ⟨⟨by omega, hq⟩, _, rfl, [strV n, strV osp, strV oid, strV rl], rfl, Rds.o hr5, .map (some g), ((i1.mono (l1.trans l5)) 2 _ rfl).o, ?_⟩
      refine ⟨?_, ?_⟩
      all_goals
        refine hlook rfl rfl (fun _ => rfl) hst hM ?_
        refine ⟨_, rfl, _, rfl, ?_⟩
        cases fo with
        | none =>
          refine ret_plain rfl fun W' _ => ?_
          rw [hs2 rfl]
          exact ⟨_, rfl, fun l hl => by cases hl⟩
        | some p =>
          obtain ⟨p1, p2⟩ := p
          exact ⟨rfl, _, inc, ⟨i + 1⟩, all_sl ⟨rfl, trivial⟩, rfl, ole_refl _, ⟨by dsimp only; omega, hs1 rfl⟩, by dsimp only; omega⟩
    · have hq : ¬ (i : Int) < c.scopes.length := hq
      obtain rfl : i = c.scopes.length := by omega
      rw [List.take_length] at hf
      rw [if_pos (List.all_eq_true.2 hf)] at hdef
      subst hdef
      refine RetVC.freeze (fun _ hb => hb) (i := 0) rfl fun Wm lm hs0 => ?_
      exact ret_plain rfl fun W' l' => ⟨_, rfl, fun q hq => by cases hq; exact SlRead.mono hs0 l'⟩
end Go.Proofs.YtcgbcbdgjhnlaaaGreat

/- Layer 18 (strata), walked: one number raised. -/
namespace Go.Proofs.YtcgbcbdgjhnlaaaGreat
open Go.RowKit

def natV (n : Nat) : Value := .int .i64 n
def rowV (g : Nat) (xs : List Nat) : Value := .slice (some ⟨g, 0, none⟩) xs.length xs.length
def rowO (g : Nat) (xs : List Nat) : Own := ⟨rowV g xs, 3, 1, xs.length, xs.map natV⟩
def outO (g0 N : Nat) (cells : List Value) : Own := ⟨.slice (some ⟨g0, 0, none⟩) N N, 91, 1, N, cells⟩
def nilsV (n : Nat) : List Value := List.replicate n (.slice none 0 0)
def numsO (g0 N : Nat) (gs : List Nat) (num : Num) : List Own := outO g0 N (List.zipWith rowV gs num ++ nilsV (N - num.length)) :: List.zipWith rowO gs num
theorem zip_at {α : Type} (f : Nat → List Nat → α) {gs : List Nat} {num : Num} {i g : Nat} {r : List Nat} (h1 : gs[i]? = some g) (h2 : num[i]? = some r) : (List.zipWith f gs num)[i]? = some (f g r) := by
  rw [List.getElem?_zipWith, h1, h2]
theorem zip_set {α : Type} (f : Nat → List Nat → α) : ∀ {gs : List Nat} {num : Num} {i g : Nat} (r' : List Nat), gs[i]? = some g → List.zipWith f gs (num.set i r') = (List.zipWith f gs num).set i (f g r')
  | [], _, _, _, _, h => by cases h
  | g :: gs, [], i, _, r', h => by simp
  | g :: gs, r :: num, 0, g', r', h => by
    obtain rfl : g = g' := Option.some.inj h
    rfl
  | g :: gs, r :: num, i + 1, g', r', h => by
    show f g r :: List.zipWith f gs (num.set i r') = f g r :: (List.zipWith f gs num).set i (f g' r')
    rw [zip_set f r' (show gs[i]? = some g' from h)]
theorem set_same {α : Type} {l : List α} {i : Nat} {x : α} (h : l[i]? = some x) : l.set i x = l := by
  apply List.ext_getElem?
  intro j
  rw [List.getElem?_set]
  split
  · rename_i e
    subst e
    rw [h, if_pos (List.getElem?_eq_some_iff.1 h).1]
  · rfl
theorem nums_row {g0 N : Nat} {gs : List Nat} {num : Num} {i g : Nat} {r : List Nat} (h1 : gs[i]? = some g) (h2 : num[i]? = some r) : (numsO g0 N gs num)[i + 1]? = some (rowO g r) := zip_at rowO h1 h2
theorem nums_cell {N : Nat} {gs : List Nat} {num : Num} {i g : Nat} {r : List Nat} (h1 : gs[i]? = some g) (h2 : num[i]? = some r) : (List.zipWith rowV gs num ++ nilsV (N - num.length))[i]? = some (rowV g r) := by
  rw [List.getElem?_append_left (by rw [List.length_zipWith]; exact Nat.lt_min.2 ⟨(List.getElem?_eq_some_iff.1 h1).1, (List.getElem?_eq_some_iff.1 h2).1⟩)]
  exact zip_at rowV h1 h2
theorem nums_set {g0 N : Nat} {gs : List Nat} {num : Num} {i g k : Nat} {r : List Nat} {x : Nat} (h1 : gs[i]? = some g) (h2 : num[i]? = some r) (hk : k < r.length) :
    (numsO g0 N gs num).set (i + 1) { rowO g r with cs := (r.map natV).take k ++ [natV x] ++ (r.map natV).drop (k + 1) } = numsO g0 N gs (setN num (i, k) x) := by
  have e1 : setN num (i, k) x = num.set i (r.set k x) := by
    unfold setN
    rw [h2]; rfl
  have e2 : ({ rowO g r with cs := (r.map natV).take k ++ [natV x] ++ (r.map natV).drop (k + 1) } : Own) = rowO g (r.set k x) := by
    rw [set_map natV x hk]
    unfold rowO rowV
    rw [List.length_set]
  have e3 : rowV g (r.set k x) = rowV g r := by unfold rowV; rw [List.length_set]
  rw [e2, e1]
  show outO g0 N _ :: (List.zipWith rowO gs num).set i _ = outO g0 N _ :: List.zipWith rowO gs (num.set i (r.set k x))
  rw [zip_set rowO _ h1, zip_set rowV _ h1, e3, set_same (zip_at rowV h1 h2), List.length_set]
theorem getN_at {num : Num} {s : Spot} {r : List Nat} {x : Nat} (h1 : num[s.1]? = some r) (h2 : r[s.2]? = some x) : getN num s = x := by
  unfold getN
  rw [h1, Option.getD_some, h2, Option.getD_some]
/-- A place of the numbers. -/
def InN (num : Num) (s : Spot) : Prop := ∃ r x, num[s.1]? = some r ∧ r[s.2]? = some x ∧ x ≤ 4000000000000000000
set_option maxRecDepth 20000 in
set_option maxHeartbeats 16000000 in
theorem rise_vc {B : Base} {σ : List (List PV)} {W : PW} {N g0 : Nat} {gs : List Nat} {num : Num} (hg : gs.length = N) (hn : num.length = N) (e : EdgeS) (hf : InN num e.fs) (ht : InN num e.ts) {K : GV → GS → Prop}
    (hK : ∀ W', W.Le W' → K (.v (.bool (riseN num e).2)) ⟨σ, numsO g0 N gs (riseN num e).1, W'⟩) : CallVC Tryz.prog B 64 [.v (.slice (some ⟨g0, 0, none⟩) N N), .ag ((edgeC e).map .v)] [] ⟨σ, numsO g0 N gs num, W⟩ K := by
  obtain ⟨⟨f1, f2⟩, ⟨t1, t2⟩, ab⟩ := e
  obtain ⟨rf, y, hf1, hf2, hf3⟩ := hf
  obtain ⟨rt, x, ht1, ht2, ht3⟩ := ht
  have gf := getN_at (s := (f1, f2)) hf1 hf2
  have gt := getN_at (s := (t1, t2)) ht1 ht2
  dsimp only at hf1 hf2 ht1 ht2
  have lf1 := (List.getElem?_eq_some_iff.1 hf1).1
  have lf2 := (List.getElem?_eq_some_iff.1 hf2).1
  have lt1 := (List.getElem?_eq_some_iff.1 ht1).1
  have lt2 := (List.getElem?_eq_some_iff.1 ht2).1
  obtain ⟨hgf, ef⟩ : ∃ g, gs[f1]? = some g := ⟨_, List.getElem?_eq_getElem (by omega)⟩
  obtain ⟨hgt, et⟩ : ∃ g, gs[t1]? = some g := ⟨_, List.getElem?_eq_getElem (by omega)⟩
  have hrise : riseN num ⟨(f1, f2), (t1, t2), ab⟩ = if x + (if ab = true then 1 else 0) ≤ y then (num, false) else (setN num (f1, f2) (x + (if ab = true then 1 else 0)), true) := by
    unfold riseN leastN
    show (if getN num (t1, t2) + (if ab = true then 1 else 0) ≤ getN num (f1, f2) then (num, false) else (setN num (f1, f2) (getN num (t1, t2) + (if ab = true then 1 else 0)), true)) = _
    rw [gf, gt]
  rw [hrise] at hK
  have ct : ((rt.map natV))[t2]? = some (natV x) := by rw [List.getElem?_map, ht2]; rfl
  have cf : ((rf.map natV))[f2]? = some (natV y) := by rw [List.getElem?_map, hf2]; rfl
  refine call_frame rfl fun W1 ex l1 => ?_
  refine call_inl hmix Tryz.func64 r64 (by kernel_rfl) (vs := [.slice (some ⟨g0, 0, none⟩) N N, .agg ⟨edgeC ⟨(f1, f2), (t1, t2), ab⟩⟩]) rfl rfl fun rc => ?_
  refine ⟨⟨by omega, by show (t1 : Int) < N; omega⟩, _, rfl, rowV hgt rt, .inr ⟨0, outO g0 N _, ⟨g0, 0, none⟩, N, N, t1 * 1, rfl, rfl, rfl, by rw [Nat.mul_one]; exact nums_cell et ht1⟩, ?_⟩
  refine ⟨⟨by omega, by show (t2 : Int) < rt.length; omega⟩, _, rfl, natV x, .inr ⟨t1 + 1, rowO hgt rt, ⟨hgt, 0, none⟩, rt.length, rt.length, t2 * 1, nums_row et ht1, rfl, rfl, by rw [Nat.mul_one]; exact ct⟩, ?_⟩
  have inc : ((x + 1 : Nat) : Int) = IntKind.i64.wrap ((x : Int) + 1) := by rw [i64_in ((x : Int) + 1) ⟨by omega, by omega⟩]; rfl
  cases ab with
  | true =>
    have hK : ∀ W', W.Le W' → K (.v (.bool (if x + 1 ≤ y then (num, false) else (setN num (f1, f2) (x + 1), true)).2)) ⟨σ, numsO g0 N gs (if x + 1 ≤ y then (num, false) else (setN num (f1, f2) (x + 1), true)).1, W'⟩ := hK
    clear hrise
    refine ⟨rfl, ((x + 1 : Nat) : Int), inc, ?_⟩
    clear inc
    obtain ⟨z, hz⟩ : ∃ z, x + 1 = z := ⟨_, rfl⟩
    rw [hz] at hK ⊢
    refine ⟨⟨by omega, by show (f1 : Int) < N; omega⟩, _, rfl, rowV hgf rf, .inr ⟨0, outO g0 N _, ⟨g0, 0, none⟩, N, N, f1 * 1, rfl, rfl, rfl, by rw [Nat.mul_one]; exact nums_cell ef hf1⟩, ?_⟩
    refine ⟨⟨by omega, by show (f2 : Int) < rf.length; omega⟩, _, rfl, natV y, .inr ⟨f1 + 1, rowO hgf rf, ⟨hgf, 0, none⟩, rf.length, rf.length, f2 * 1, nums_row ef hf1, rfl, rfl, by rw [Nat.mul_one]; exact cf⟩, ?_⟩
    refine ⟨rfl, br_split (fun hq => ?_) (fun hq => ?_)⟩
    · have hq : (y : Int) ≥ (z : Nat) := hq
      rw [if_pos (by omega)] at hK
      exact ⟨_, rfl, _, rfl, fun W2 l2 => hK W2 l2⟩
    · have hq : ¬ (y : Int) ≥ (z : Nat) := hq
      rw [if_neg (by omega)] at hK
      refine ⟨⟨by omega, by show (f1 : Int) < N; omega⟩, _, rfl, rowV hgf rf, .inr ⟨0, outO g0 N _, ⟨g0, 0, none⟩, N, N, f1 * 1, rfl, rfl, rfl, by rw [Nat.mul_one]; exact nums_cell ef hf1⟩, ?_⟩
      refine ⟨⟨by omega, by show (f2 : Int) < rf.length; omega⟩, _, rfl, ?_⟩
      refine ⟨f1 + 1, rowO hgf rf, ⟨hgf, 0, none⟩, rf.length, rf.length, f2 * 1, nums_row ef hf1, rfl, rfl, rfl, (fun u hu => by rw [List.mem_singleton.1 hu]; rfl), by rw [Nat.mul_one]; show f2 + 1 ≤ (rf.map natV).length; rw [List.length_map]; omega, rfl, ?_⟩
      have e := nums_set (g0 := g0) (N := N) (x := z) ef hf1 lf2
      refine ⟨_, rfl, _, rfl, fun W2 l2 => ?_⟩
      have hK := hK W2 l2
      dsimp only at hK
      rw [← e] at hK
      rw [Nat.mul_one]
      exact hK
  | false =>
    have hK : ∀ W', W.Le W' → K (.v (.bool (if x ≤ y then (num, false) else (setN num (f1, f2) x, true)).2)) ⟨σ, numsO g0 N gs (if x ≤ y then (num, false) else (setN num (f1, f2) x, true)).1, W'⟩ := hK
    clear hrise inc
    refine ⟨⟨by omega, by show (f1 : Int) < N; omega⟩, _, rfl, rowV hgf rf, .inr ⟨0, outO g0 N _, ⟨g0, 0, none⟩, N, N, f1 * 1, rfl, rfl, rfl, by rw [Nat.mul_one]; exact nums_cell ef hf1⟩, ?_⟩
    refine ⟨⟨by omega, by show (f2 : Int) < rf.length; omega⟩, _, rfl, natV y, .inr ⟨f1 + 1, rowO hgf rf, ⟨hgf, 0, none⟩, rf.length, rf.length, f2 * 1, nums_row ef hf1, rfl, rfl, by rw [Nat.mul_one]; exact cf⟩, ?_⟩
    refine ⟨rfl, br_split (fun hq => ?_) (fun hq => ?_)⟩
    · have hq : (y : Int) ≥ (x : Nat) := hq
      rw [if_pos (by omega)] at hK
      exact ⟨_, rfl, _, rfl, fun W2 l2 => hK W2 l2⟩
    · have hq : ¬ (y : Int) ≥ (x : Nat) := hq
      rw [if_neg (by omega)] at hK
      refine ⟨⟨by omega, by show (f1 : Int) < N; omega⟩, _, rfl, rowV hgf rf, .inr ⟨0, outO g0 N _, ⟨g0, 0, none⟩, N, N, f1 * 1, rfl, rfl, rfl, by rw [Nat.mul_one]; exact nums_cell ef hf1⟩, ?_⟩
      refine ⟨⟨by omega, by show (f2 : Int) < rf.length; omega⟩, _, rfl, ?_⟩
      refine ⟨f1 + 1, rowO hgf rf, ⟨hgf, 0, none⟩, rf.length, rf.length, f2 * 1, nums_row ef hf1, rfl, rfl, rfl, (fun u hu => by rw [List.mem_singleton.1 hu]; rfl), by rw [Nat.mul_one]; show f2 + 1 ≤ (rf.map natV).length; rw [List.length_map]; omega, rfl, ?_⟩
      have e := nums_set (g0 := g0) (N := N) (x := x) ef hf1 lf2
      refine ⟨_, rfl, _, rfl, fun W2 l2 => ?_⟩
      have hK := hK W2 l2
      dsimp only at hK
      rw [← e] at hK
      rw [Nat.mul_one]
      exact hK
end Go.Proofs.YtcgbcbdgjhnlaaaGreat
