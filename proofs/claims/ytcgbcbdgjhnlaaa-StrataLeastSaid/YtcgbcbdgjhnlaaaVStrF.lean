/- Layer 18 (strata), walked: the edges of one relation. -/
import Derived.Test.YtcgbcbdgjhnlaaaVStrE
namespace Go.Proofs.Ytcgbcbdgjhnlaaa
open Go.RowKit

theorem namedT_len {c : ConfS} (hS : SmC c) {s : Spot} {r : RelS} (hr : relAt c s = some r) {n : NodeS} {l : List TypS} (h : namedT c s r n = some l) : l.length ≤ 1000 := by
  unfold namedT at h
  split at h
  · cases h
    obtain ⟨sp, _, _, h1, h2⟩ := relAt_mem hr
    exact Nat.le_trans (setsS_len _) ((hS.1 sp h1).2 r h2).2.1
  · split at h
    · cases h; show 1 ≤ 1000; omega
    · split at h
      · split at h
        · cases h
        · rename_i p _
          split at h
          · cases h
          · rename_i q hq
            obtain ⟨sp, _, _, h1, h2⟩ := relAt_mem hq
            split at h
            · cases h
            · cases h
              unfold arrowT
              rw [List.length_map]
              exact Nat.le_trans (setsS_len _) ((hS.1 sp h1).2 q h2).2.1
      · cases h; exact Nat.zero_le _
theorem namedS_len {c : ConfS} (hS : SmC c) {s : Spot} {r : RelS} (hr : relAt c s = some r) {n : NodeS} {l : List Spot} (h : namedS c s r n = some l) : l.length ≤ 1000 := by
  unfold namedS at h
  split at h
  · cases h
  · rename_i t ht
    exact Nat.le_trans (findUp_len h) (namedT_len hS hr ht)
def edgeAt (s : Spot) (ab : Bool) (t : Spot) : EdgeS := ⟨s, t, ab⟩
theorem edgesUp_some {c : ConfS} {s : Spot} {r : RelS} {i : Nat} {out : List EdgeS} {n : NodeS} {l : List Spot} (h : edgesUp c s r i = some out) (hn : r.nodes[i]? = some n) (hl : namedS c s r n = some l) : edgesUp c s r (i + 1) = some (out ++ l.map (edgeAt s ((absS r.nodes).getD i false))) := by
  rw [edgesUp, h, hn]
  dsimp only
  rw [hl]
  rfl
theorem edgesUp_none {c : ConfS} {s : Spot} {r : RelS} {i : Nat} (h : edgesUp c s r i = none) : ∀ {j : Nat}, i ≤ j → edgesUp c s r j = none
  | 0, hj => by obtain rfl : i = 0 := by omega
                exact h
  | j + 1, hj => by
    by_cases e : i = j + 1
    · rw [← e]; exact h
    · rw [edgesUp, edgesUp_none h (j := j) (by omega)]
theorem edgesUp_no {c : ConfS} {s : Spot} {r : RelS} {i : Nat} {out : List EdgeS} {n : NodeS} (h : edgesUp c s r i = some out) (hn : r.nodes[i]? = some n) (hl : namedS c s r n = none) : edgesUp c s r r.nodes.length = none := by
  refine edgesUp_none (i := i + 1) ?_ (Nat.succ_le_of_lt (List.getElem?_eq_some_iff.1 hn).1)
  rw [edgesUp, h, hn]
  dsimp only
  rw [hl]
theorem edgesUp_len {c : ConfS} (hS : SmC c) {s : Spot} {r : RelS} (hr : relAt c s = some r) : ∀ {i : Nat} {out : List EdgeS}, edgesUp c s r i = some out → out.length ≤ 1000 * i
  | 0, out, h => by cases h; exact Nat.le_refl _
  | i + 1, out, h => by
    rw [edgesUp] at h
    split at h
    · rename_i o n h1 h2
      have := edgesUp_len hS hr h1
      split at h
      · rename_i l hl
        have := namedS_len hS hr hl
        cases h; rw [List.length_append, List.length_map]; omega
      · cases h
    · rename_i o h1 h2
      have := edgesUp_len hS hr h1
      cases h; omega
    · cases h
theorem edgesS_len {c : ConfS} (hS : SmC c) {s : Spot} {out : List EdgeS} (h : edgesS c s = some out) : out.length ≤ 1000000 := by
  unfold edgesS at h
  split at h
  · cases h
  · rename_i r hr
    split at h
    · cases h
    · have := edgesUp_len hS hr h
      obtain ⟨sp, _, _, h1, h2⟩ := relAt_mem hr
      have := ((hS.1 sp h1).2 r h2).2.2.1
      omega

theorem absGo_len (l : List NodeS) : ∀ (i : Nat) (out : List Bool), (absGo l i out).length = out.length
  | 0, _ => rfl
  | i + 1, out => by
    rw [absGo, absGo_len l i]
    split
    · exact absStep_len _ _ _
    · rfl
theorem absS_len (l : List NodeS) : (absS l).length = l.length := by unfold absS; rw [absGo_len, List.length_replicate]

def edgeC (e : EdgeS) : List Value := [.int .i64 e.fs.1, .int .i64 e.fs.2, .int .i64 e.ts.1, .int .i64 e.ts.2, .bool e.ab]
def edgeO (v : Value) (l : List EdgeS) : Own := ⟨v, 231, 5, l.length, (l.map edgeC).flatten⟩
theorem edgeO_snoc (A : Option Addr) (c : Nat) (l : List EdgeS) (x : EdgeS) : (⟨.slice A (l.length + 1) c, 231, 5, l.length + 1, (l.map edgeC).flatten ++ edgeC x⟩ : Own) = edgeO (.slice A (l ++ [x]).length c) (l ++ [x]) := by
  unfold edgeO
  rw [List.length_append, flat_snoc]; rfl
theorem edgeC_one (s : EdgeS) : ∀ u ∈ edgeC s, u.oneCell' = true := by
  intro u hu
  simp only [edgeC, List.mem_cons, List.not_mem_nil, or_false] at hu
  rcases hu with rfl | rfl | rfl | rfl | rfl <;> rfl
def OptE (W : PW) (v : Value) (o : Option (List EdgeS)) : Prop := ∃ u, v = .tuple ⟨[u, .bool o.isSome]⟩ ∧ ∀ l, o = some l → RP edgeC W u l
structure FoSt where
  i : Nat
structure EdSt where
  i : Nat
  A : Option Addr
  c : Nat
  l : List EdgeS
set_option maxRecDepth 20000 in
set_option maxHeartbeats 16000000 in
theorem edges_x (c : ConfS) (hS : SmC c) (s : Spot) (r : RelS) (hr : relAt c s = some r) (a : Addr) (W : PW) (h : Idx W a c) :
    CallsX Try.prog 153 ⟨[.pointer (some a), .agg ⟨spotC s⟩]⟩ [] W fun v W' => OptE W' v (edgesS c s) := by
  have hmax : (100000000000000 : Nat) ≤ maxLen := by decide
  obtain ⟨sp, hsp, hnm, hspm, hrm⟩ := relAt_mem hr
  obtain ⟨sm1, sm2⟩ := hS.1 sp hspm
  obtain ⟨sm3, sm4, sm5, sm6, sm7⟩ := sm2 r hrm
  have hidx := h
  obtain ⟨sv, kv, g, i1, i2, i3, i4⟩ := h
  obtain ⟨R, hR⟩ : ∃ R, edgesS c s = R := ⟨_, rfl⟩
  have hdef : R = match findAll c (setsS r.types) with | none => none | some _ => edgesUp c s r r.nodes.length := by rw [← hR]; unfold edgesS; rw [hr]; rfl
  rw [hR]
  refine pureNX hmix Try.func153 r153 (by kernel_rfl) [nilO 231 5] rfl [.pointer (some a), .agg ⟨spotC s⟩] rfl ?_
  refine call_v rfl (fun W' lw => rel_x c s r hr a W' (hidx.mono lw)) (fun W3 v W1 l3 l4 hv => ?_)
  obtain ⟨cs, rfl, tv, nv, rfl, hT, hN⟩ := hv
  have l1 : W.Le W1 := l3.trans l4
  obtain ⟨A2, c2, rfl, _, _⟩ := hT.form
  obtain ⟨A3, c3, rfl, _, _⟩ := hN.form
  refine call_v rfl (fun W' lw => sets_x r.types _ W' (hT.mono lw) (Nat.le_trans sm4 (by omega))) (fun W4 v W5 l5 l6 hv => ?_)
  obtain ⟨A5, c5, rfl, _, _⟩ := hv.form
  have hql := Nat.le_trans (setsS_len r.types) sm4
  obtain ⟨ts, hts⟩ : ∃ ts, setsS r.types = ts := ⟨_, rfl⟩
  have htsm : ∀ t ∈ ts, smT t := fun t ht => sm6 t (by rw [← hts] at ht; exact (List.mem_filter.1 ht).1)
  rw [hts] at hdef hql hv ⊢
  refine ⟨FoSt, fun t => [(26, .v (.int .i64 t.i))], fun _ => _, fun t => [nilO 231 5], fun t _ => t.i ≤ ts.length ∧ ∃ out, findUp c ts t.i = some out, fun t => ts.length - t.i, ⟨0⟩,
    all_sl ⟨rfl, trivial⟩, rfl, ole_refl _, ⟨Nat.zero_le _, _, rfl⟩, loopOK (fun _ => ⟨⟨trivial, rfl⟩, trivial⟩) (fun _ => rfl) (fun _ => rfl), ?_⟩
  rintro ⟨i⟩ W7 l7 ⟨hi, out, hf⟩ fr2
  dsimp only at hi hf
  refine ⟨rfl, br_split (fun hq => ?_) (fun hq => ?_)⟩
  · have hq : (i : Int) < ts.length := hq
    have inc := (i64_in ((i : Int) + 1) ⟨by omega, by omega⟩).symm
    obtain ⟨a5, rfl, t, ht, _, _, hr5⟩ := RP.at (f := typC) (sz := 2) (fun _ => rfl) hv l7 (j := (i : Int)) ⟨by omega, by omega⟩
    have ht : ts[i]? = some t := ht
    have hst := htsm t (List.mem_of_getElem? ht)
    have hM := i4.mono (l1.trans (l5.trans (l6.trans l7)))
    have hs1 := fun s hs => findUp_some (s := s) hf ht hs
    have hs2 := fun hs => findUp_no hf ht hs
    obtain ⟨fo, hfo⟩ : ∃ fo, findS c t = fo := ⟨_, rfl⟩
    rw [hfo] at hs1 hs2
    have hlook := fun {o : Oper} {m x : Operand} {f : Fr} {prot : List Nat} {S : GS} {K : GV → GS → Prop} => raw_look2 (B := ⟨W, [], []⟩) (o := o) (m := m) (x := x) (g := g) (c := c) (f := f) (prot := prot) (S := S) (K := K) hfo
    clear hfo
    obtain ⟨t1, t2⟩ := t
    refine ⟨⟨by omega, hq⟩, _, rfl, [strV t1, strV t2], rfl, Rds.o hr5, .map (some g), ((i1.mono (l1.trans (l5.trans (l6.trans l7)))) 2 _ rfl).o, ?_⟩
    refine ⟨?_, ?_⟩
    all_goals
      refine hlook rfl rfl (fun _ => rfl) hst hM ?_
      refine ⟨_, rfl, _, rfl, ?_⟩
      cases fo with
      | none =>
        refine ret_plain rfl fun W' _ => ?_
        rw [hdef, hs2 rfl]
        exact ⟨_, rfl, fun l hl => by cases hl⟩
      | some p =>
        obtain ⟨p1, p2⟩ := p
        exact ⟨rfl, _, inc, ⟨i + 1⟩, all_sl ⟨rfl, trivial⟩, rfl, ole_refl _, ⟨by dsimp only; omega, _, hs1 (p1, p2) rfl⟩, by dsimp only; omega⟩
  · have hq : ¬ (i : Int) < ts.length := hq
    obtain rfl : i = ts.length := by omega
    have hf : findAll c ts = some out := hf
    rw [hf] at hdef
    dsimp only at hdef
    have l17 : W1.Le W7 := l5.trans (l6.trans l7)
    refine call_v rfl (fun W' lw => absences_x r.nodes (Nat.le_trans sm5 (by omega)) (fun n hn => (sm7 n hn).2) _ W' (hN.mono (l17.trans lw))) (fun W8 v W9 l8 l9 hab => ?_)
    obtain ⟨A6, c6, rfl, _, _⟩ := hab.form
    have habl := absS_len r.nodes
    have hsome := fun i out n l => edgesUp_some (c := c) (s := s) (r := r) (i := i) (out := out) (n := n) (l := l)
    have hnone := fun i out n => edgesUp_no (c := c) (s := s) (r := r) (i := i) (out := out) (n := n)
    have hlen := fun i out => edgesUp_len hS hr (i := i) (out := out)
    have hnlen := fun n l => namedS_len hS hr (n := n) (l := l)
    obtain ⟨ab, habe⟩ : ∃ ab, absS r.nodes = ab := ⟨_, rfl⟩
    rw [habe] at hab habl hsome ⊢
    refine ⟨EdSt, fun t => [(12, .v (.slice t.A t.l.length t.c)), (48, .v (.int .i64 t.i))], fun _ => _, fun t => [edgeO (.slice t.A t.l.length t.c) t.l], fun t _ => t.i ≤ r.nodes.length ∧ edgesUp c s r t.i = some t.l, fun t => r.nodes.length - t.i, ⟨0, none, 0, []⟩,
      all_sl ⟨rfl, rfl, trivial⟩, rfl, ole_refl _, ⟨Nat.zero_le _, rfl⟩, loopOK (fun _ => ⟨⟨trivial, rfl⟩, ⟨trivial, rfl⟩, trivial⟩) (fun _ => rfl) (fun _ => rfl), ?_⟩
    rintro ⟨i, A, k, l⟩ W10 l10 ⟨hi, hl⟩ fr3
    dsimp only at hi hl
    have l110 : W1.Le W10 := l17.trans (l8.trans (l9.trans l10))
    refine ⟨rfl, br_split (fun hq2 => ?_) (fun hq2 => ?_)⟩
    · have hq2 : (i : Int) < r.nodes.length := hq2
      have inc := (i64_in ((i : Int) + 1) ⟨by omega, by omega⟩).symm
      obtain ⟨a3, rfl, n, hn, _, _, hr3⟩ := RP.at (f := nodeC) (sz := 5) (fun _ => rfl) hN l110 (j := (i : Int)) ⟨by omega, by omega⟩
      have hn : r.nodes[i]? = some n := hn
      have hll := hlen i l hl
      have hs1 := fun l' hs => hsome i l n l' hl hn hs
      have hs2 := fun hs => hnone i l n hl hn hs
      have hs3 := hnlen n
      have hnsm := (sm7 n (List.mem_of_getElem? hn)).1
      have hcall := fun W' lw => named_x c hS s r hr n hnsm a W' (hidx.mono (l1.trans (l110.trans lw)))
      obtain ⟨no, hno⟩ : ∃ no, namedS c s r n = no := ⟨_, rfl⟩
      rw [hno] at hs1 hs2 hs3 hcall
      obtain ⟨k0, nr, nt, na, nb⟩ := n
      refine ⟨⟨by omega, hq2⟩, _, rfl, [.int .i64 k0, strV nr, strV nt, .int .i64 na, .int .i64 nb], rfl, Rds.o hr3, ?_⟩
      refine call_v rfl (fun W' lw => hcall W' lw) (fun W11 v W12 l11 l12 hv => ?_)
      obtain ⟨u, rfl, hu⟩ := hv
      refine ⟨_, rfl, _, rfl, ?_⟩
      cases no with
      | none =>
        refine ret_plain rfl fun W' _ => ?_
        rw [hdef, hs2 rfl]
        exact ⟨_, rfl, fun l hl => by cases hl⟩
      | some m =>
        have hu := hu m rfl
        have hs1 := hs1 m rfl
        have hml := hs3 m rfl
        clear hcall hs2 hs3
        obtain ⟨A9, c9, rfl, _, _⟩ := hu.form
        obtain ⟨b, hb⟩ : ∃ b, ab.getD i false = b := ⟨_, rfl⟩
        rw [hb] at hs1
        have hbg : ∃ A6', A6 = some A6' ∧ ∀ W', W9.Le W' → Rd W' (A6'.add (i * 1)) (.bool b) := by
          obtain ⟨a', e, x, hx, _, _, hr6⟩ := RP.at (f := boolC) (sz := 1) (fun _ => rfl) hab (PW.Le.refl _) (j := (i : Int)) ⟨by omega, by omega⟩
          have hx : ab[i]? = some x := hx
          obtain rfl : x = b := by rw [← hb, List.getD_eq_getElem?_getD, hx]; rfl
          exact ⟨a', e, fun W' lw => (hr6.mono lw) 0 _ rfl⟩
        obtain ⟨a6, rfl, hrd6⟩ := hbg
        refine ⟨EdSt, fun t => [(12, .v (.slice t.A t.l.length t.c)), (64, .v (.int .i64 t.i))], fun _ => _, fun t => [edgeO (.slice t.A t.l.length t.c) t.l], fun t _ => t.i ≤ m.length ∧ t.l = l ++ (m.take t.i).map (edgeAt s b), fun t => m.length - t.i, ⟨0, A, k, l⟩,
          all_sl ⟨rfl, rfl, trivial⟩, rfl, ole_refl _, ⟨Nat.zero_le _, (List.append_nil l).symm⟩, loopOK (fun _ => ⟨⟨trivial, rfl⟩, ⟨trivial, rfl⟩, trivial⟩) (fun _ => rfl) (fun _ => rfl), ?_⟩
        rintro ⟨j, B, kb, q⟩ W13 l13 ⟨hj, hq⟩ fr4
        dsimp only at hj hq
        have hqlen : q.length ≤ l.length + 1000 := by rw [hq, List.length_append, List.length_map, List.length_take]; omega
        refine ⟨rfl, br_split (fun hq3 => ?_) (fun hq3 => ?_)⟩
        · have hq3 : (j : Int) < m.length := hq3
          have inc2 := (i64_in ((j : Int) + 1) ⟨by omega, by omega⟩).symm
          obtain ⟨a9, rfl, t, ht, _, _, hr9⟩ := RP.at (f := spotC) (sz := 2) (fun _ => rfl) hu l13 (j := (j : Int)) ⟨by omega, by omega⟩
          have ht : m[j]? = some t := ht
          have hnext : l ++ (m.take (j + 1)).map (edgeAt s b) = q ++ [edgeAt s b t] := by
            rw [hq, List.take_add_one, ht, List.map_append, List.append_assoc]; rfl
          obtain ⟨t1, t2⟩ := t
          refine ⟨⟨by omega, hq3⟩, _, rfl, [.int .i64 t1, .int .i64 t2], rfl, Rds.o hr9, ?_⟩
          refine ⟨⟨by omega, by show (i : Int) < ab.length; omega⟩, _, rfl, .bool b, (hrd6 _ (l10.trans (l11.trans (l12.trans l13)))).o, ?_⟩
          refine ⟨rfl, .inl fun bd Wd ld hrd => ⟨0, _, edgeC ⟨s, (t1, t2), b⟩, rfl, rfl, rfl, rfl, rfl, edgeC_one _, fun _ => ⟨_, rfl, hrd.o⟩, by show q.length + 1 ≤ maxLen; omega, by show (q.length + 1) * 40 ≤ 140737488355328; omega, rfl, @fun Ae ce _ => ?_⟩⟩
          refine ⟨rfl, _, inc2, ⟨j + 1, Ae, ce, q ++ [edgeAt s b (t1, t2)]⟩, all_sl ⟨?_, rfl, trivial⟩, rfl, ole_eq ?_, ⟨by dsimp only; omega, by dsimp only; rw [hnext]⟩, by dsimp only; omega⟩
          · dsimp only; rw [show (q ++ [edgeAt s b (t1, t2)]).length = q.length + 1 from List.length_append]; rfl
          · exact congrArg (fun z => [z]) (edgeO_snoc Ae ce q (edgeAt s b (t1, t2)))
        · have hq3 : ¬ (j : Int) < m.length := hq3
          rw [List.take_of_length_le (by omega)] at hq
          exact ⟨rfl, _, inc, ⟨i + 1, B, kb, q⟩, all_sl ⟨rfl, rfl, trivial⟩, rfl, ole_refl _, ⟨by dsimp only; omega, by dsimp only; rw [hq]; exact hs1⟩, by dsimp only; omega⟩
    · have hq2 : ¬ (i : Int) < r.nodes.length := hq2
      obtain rfl : i = r.nodes.length := by omega
      rw [hl] at hdef
      subst hdef
      refine RetVC.freeze (fun _ hb => hb) (i := 0) rfl fun Wm lm hs0 => ?_
      exact ret_plain rfl fun W' l' => ⟨_, rfl, fun q hq => by cases hq; exact SlRead.mono hs0 l'⟩
end Go.Proofs.Ytcgbcbdgjhnlaaa

