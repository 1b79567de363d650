/- Layer 18 (strata), walked: the relations that a node names. -/
import Derived.Test.YtcgbcbdgjhnlaaaVStrD
namespace Go.Proofs.Ytcgbcbdgjhnlaaa
open Go.RowKit

def SmC (c : ConfS) : Prop := (∀ sp ∈ c.spaces, sp.name.length ≤ 9223372036854775807 ∧ ∀ r ∈ sp.rels, r.name.length ≤ 9223372036854775807 ∧ r.types.length ≤ 1000 ∧ r.nodes.length ≤ 1000 ∧ (∀ t ∈ r.types, smT t) ∧ ∀ n ∈ r.nodes, n.small ∧ (4 ≤ n.kind → 0 ≤ n.a ∧ n.a < r.nodes.length ∧ 0 ≤ n.b ∧ n.b < r.nodes.length)) ∧ (∀ s ∈ c.scopes, smS s) ∧ c.spaces.length ≤ 1000 ∧ (∀ sp ∈ c.spaces, sp.rels.length ≤ 1000) ∧ c.scopes.length ≤ 1000
theorem relAt_mem {c : ConfS} {s : Spot} {r : RelS} (h : relAt c s = some r) : ∃ sp, c.spaces[s.1]? = some sp ∧ nameAt c s.1 = sp.name ∧ sp ∈ c.spaces ∧ r ∈ sp.rels := by
  unfold relAt at h
  obtain ⟨sp, h1, h2⟩ := Option.bind_eq_some_iff.1 h
  exact ⟨sp, h1, by unfold nameAt; rw [h1]; rfl, List.mem_of_getElem? h1, List.mem_of_getElem? h2⟩
theorem setsS_len (l : List TypS) : (setsS l).length ≤ l.length := List.length_filter_le _ _
structure ArSt where
  i : Nat
  A : Option Addr
  c : Nat
  l : List TypS
set_option maxRecDepth 20000 in
set_option maxHeartbeats 16000000 in
theorem named_x (c : ConfS) (hS : SmC c) (s : Spot) (r : RelS) (hr : relAt c s = some r) (n : NodeS) (hn : n.small) (a : Addr) (W : PW) (h : Idx W a c) :
    CallsX Try.prog 175 ⟨[.pointer (some a), .agg ⟨spotC s⟩, .agg ⟨nodeC n⟩]⟩ [] W fun v W' => OptR W' v (namedS c s r n) := by
  have hmax : (100000000 : Nat) ≤ maxLen := by decide
  obtain ⟨sp, hsp, hnm, hspm, hrm⟩ := relAt_mem hr
  obtain ⟨sm1, sm2⟩ := hS.1 sp hspm
  obtain ⟨sm3, sm4, sm5, sm6, sm7⟩ := sm2 r hrm
  have sm4 := Nat.le_trans sm4 (show 1000 ≤ 1000000 by omega)
  have hidx := h
  obtain ⟨sv, kv, g, i1, i2, i3, i4⟩ := h
  obtain ⟨R, hR⟩ : ∃ R, namedS c s r n = R := ⟨_, rfl⟩
  rw [hR]
  refine pureNX hmix Try.func175 r175 (by kernel_rfl) [nilO 166 2, nilO 227 2] rfl [.pointer (some a), .agg ⟨spotC s⟩, .agg ⟨nodeC n⟩] rfl ?_
  refine vc_assoc (vc_cut (fun f' S' => ∃ (tv nv : Value) (W1 : PW), S' = ⟨[(spotC s).map .v, (nodeC n).map .v, [.v (strV r.name), .v tv, .v nv]], [nilO 166 2, nilO 227 2], W1⟩ ∧ W.Le W1 ∧ RP typC W1 tv r.types ∧ AllSl f' [(0, .v (.pointer (some a))), (5, .lp 1 0), (8, .v (strV sp.name)), (9, .lp 2 0)]) ?_ ?_)
  · have hi := (List.getElem?_eq_some_iff.1 hsp).1
    obtain ⟨A0, c0, rfl, q1, q2⟩ := i2.form
    obtain ⟨a0, rfl, sp', cs0, hx0, hc0, hR0, hr0, _⟩ := RL.at SpR.mono i2 (PW.Le.refl W) (j := (s.1 : Int)) ⟨by omega, by omega⟩
    obtain rfl : sp = sp' := Option.some.inj (hsp.symm.trans hx0)
    obtain ⟨rv, rfl, hrels⟩ := hR0
    obtain ⟨s1, s2⟩ := s
    refine ⟨.slice (some a0) c.spaces.length c0, (rd_ff i1 (i := 0) (j := 0) rfl).o, ⟨by omega, by show (s1 : Int) < c.spaces.length; omega⟩, _, rfl, strV sp.name, (hr0 0 _ rfl).o, ?_⟩
    refine ⟨?_, ?_⟩
    all_goals
      refine call_v rfl (fun W' lw => rel_x c (s1, s2) r hr a W' (hidx.mono lw)) (fun W3 v W4 l3 l4 hv => ?_)
      obtain ⟨cs, rfl, tv, nv, rfl, hT, hN⟩ := hv
      obtain ⟨A2, c2, rfl, _, _⟩ := hT.form
      obtain ⟨A3, c3, rfl, _, _⟩ := hN.form
      exact ⟨_, _, W4, rfl, l3.trans l4, hT, ⟨rfl, rfl, rfl, rfl, trivial⟩⟩
  rintro f' S' ⟨tv, nv, W1, rfl, l1, htv, hfr⟩
  obtain ⟨s1, s2⟩ := s
  obtain ⟨k, nr, nt, na, nb⟩ := n
  obtain ⟨y1, y2⟩ := hn
  dsimp only at y1 y2
  have tail : ∀ (ts : List TypS) (W2 : PW) (hts : namedT c (s1, s2) r ⟨k, nr, nt, na, nb⟩ = some ts), W1.Le W2 → True := fun _ _ _ _ => trivial
  refine vc_assoc (vc_cut (fun f' S' => ∃ (ts : List TypS) (A0 : Option Addr) (k0 : Nat) (o0 : Own) (s3 : List (List PV)) (W2 : PW), S' = ⟨[(spotC (s1, s2)).map .v, (nodeC ⟨k, nr, nt, na, nb⟩).map .v, [.v (strV r.name), .v tv, .v nv]] ++ s3, [o0, nilO 227 2], W2⟩ ∧ W1.Le W2 ∧ namedT c (s1, s2) r ⟨k, nr, nt, na, nb⟩ = some ts ∧ ts.length ≤ 1000000 ∧ (∀ t ∈ ts, smT t) ∧ (o0 = nilO 166 2 ∧ RP typC W2 (.slice A0 ts.length k0) ts ∨ o0 = typesO (.slice A0 ts.length k0) ts ∧ OwnAt A0 ts.length) ∧ (s3 = [] ∨ ∃ w1 w2, s3 = [[.v w1, .v w2]]) ∧ AllSl f' [(0, .v (.pointer (some a))), (10, .v (.slice A0 ts.length k0))]) ?_ ?_)
  · refine vc_at _ hfr ?_
    refine ⟨rfl, br_split (fun h1 => ?_) (fun h1 => ?_)⟩
    · have h1 : k = 1 := h1
      have ets : namedT c (s1, s2) r ⟨k, nr, nt, na, nb⟩ = some (setsS r.types) := by unfold namedT; exact if_pos h1
      refine call_v rfl (fun W' lw => sets_x r.types tv W' (htv.mono lw) sm4) (fun W3 v W4 l3 l4 hv => ?_)
      obtain ⟨A2, c2, rfl, _, _⟩ := hv.form
      exact ⟨setsS r.types, A2, c2, _, [], W4, rfl, l3.trans l4, ets, Nat.le_trans (setsS_len _) sm4, fun t ht => sm6 t ((List.mem_filter.1 ht).1), .inl ⟨rfl, hv⟩, .inl rfl, ⟨rfl, rfl, trivial⟩⟩
    · have h1 : ¬ k = 1 := h1
      refine ⟨rfl, ?_⟩
      apply br_split
      · intro h2
        have h2 : k = 2 := h2
        have ets : namedT c (s1, s2) r ⟨k, nr, nt, na, nb⟩ = some [⟨sp.name, nr⟩] := by
          unfold namedT
          rw [if_neg (show ¬ (NodeS.mk k nr nt na nb).kind = 1 from h1), if_pos (show (NodeS.mk k nr nt na nb).kind = 2 from h2), hnm]
        refine ⟨rfl, .inl fun bd Wd ld hrd => ?_⟩
        exact ⟨_, _, _, _, [], Wd, rfl, ld, ets, by show 1 ≤ 1000000; omega, fun t ht => by rw [List.mem_singleton.1 ht]; exact ⟨sm1, y1⟩, .inl ⟨rfl, SlRead.of_rds (n := 1) hrd (by omega)⟩, .inl rfl, ⟨rfl, rfl, trivial⟩⟩
      · intro h2
        have h2 : ¬ k = 2 := h2
        refine ⟨rfl, ?_⟩
        apply br_split
        · intro h3
          have h3 : k = 3 := h3
          have hT3 : namedT c (s1, s2) r ⟨k, nr, nt, na, nb⟩ = match findS c ⟨sp.name, nr⟩ with
              | none => none
              | some p => match relAt c p with | none => none | some q => if arrowT q nt = [] then none else some (arrowT q nt) := by
            unfold namedT
            rw [if_neg (show ¬ (NodeS.mk k nr nt na nb).kind = 1 from h1), if_neg (show ¬ (NodeS.mk k nr nt na nb).kind = 2 from h2), if_pos (show (NodeS.mk k nr nt na nb).kind = 3 from h3), hnm]
            rfl
          have hRn : namedT c (s1, s2) r ⟨k, nr, nt, na, nb⟩ = none → R = none := fun e => by rw [← hR]; unfold namedS; rw [e]
          obtain ⟨T, hTT⟩ : ∃ T, namedT c (s1, s2) r ⟨k, nr, nt, na, nb⟩ = T := ⟨_, rfl⟩
          rw [hTT] at hT3 hRn ⊢
          have hM := i4.mono l1
          have hst : smT ⟨sp.name, nr⟩ := ⟨sm1, y1⟩
          have hrel := fun p (hp : findS c ⟨sp.name, nr⟩ = some p) => findS_rel hp
          obtain ⟨fo, hfo⟩ : ∃ fo, findS c ⟨sp.name, nr⟩ = fo := ⟨_, rfl⟩
          rw [hfo] at hT3 hrel
          have hlook := fun {o : Oper} {m x : Operand} {f : Fr} {prot : List Nat} {S : GS} {K : GV → GS → Prop} => raw_look2 (B := ⟨W, [], []⟩) (o := o) (m := m) (x := x) (g := g) (c := c) (f := f) (prot := prot) (S := S) (K := K) hfo
          clear hfo
          refine ⟨.map (some g), (i1.mono l1 2 _ rfl).o, ?_⟩
          refine ⟨?_, ?_⟩
          all_goals
            refine hlook rfl rfl (fun _ => rfl) hst hM ?_
            refine ⟨_, rfl, _, rfl, ?_⟩
            cases fo with
            | none =>
              refine ret_plain rfl fun W' _ => ?_
              rw [hRn hT3]
              exact ⟨_, rfl, fun l hl => by cases hl⟩
            | some p =>
              obtain ⟨q, hq⟩ := hrel p rfl
              dsimp only at hT3
              rw [hq] at hT3
              dsimp only at hT3
              obtain ⟨sq, _, _, hsq, hqm⟩ := relAt_mem hq
              obtain ⟨_, sq2⟩ := hS.1 sq hsq
              obtain ⟨_, sq4, _, sq6, _⟩ := sq2 q hqm
              have sq4 := Nat.le_trans sq4 (show 1000 ≤ 1000000 by omega)
              obtain ⟨p1, p2⟩ := p
              refine call_v rfl (fun W' lw => rel_x c (p1, p2) q hq a W' (hidx.mono (l1.trans lw))) (fun W3 v W4 l3 l4 hv => ?_)
              obtain ⟨cs, rfl, qv, nv2, rfl, hT, _⟩ := hv
              refine call_v rfl (fun W' lw => sets_x q.types qv W' (hT.mono lw) sq4) (fun W5 v W6 l5 l6 hv => ?_)
              obtain ⟨A5, c5, rfl, _, _⟩ := hv.form
              have hql := Nat.le_trans (setsS_len q.types) sq4
              obtain ⟨ts, hts⟩ : ∃ ts, setsS q.types = ts := ⟨_, rfl⟩
              have htsm : ∀ t ∈ ts, smT t := fun t ht => sq6 t (by rw [← hts] at ht; exact (List.mem_filter.1 ht).1)
              unfold arrowT at hT3
              rw [hts] at hT3 hql hv ⊢
              refine ⟨ArSt, fun t => [(10, .v (.slice t.A t.l.length t.c)), (69, .v (.int .i64 t.i))], fun _ => _, fun t => [typesO (.slice t.A t.l.length t.c) t.l, nilO 227 2], fun t _ => t.i ≤ ts.length ∧ t.l = (ts.take t.i).map (fun t => ⟨t.space, nt⟩) ∧ OwnAt t.A t.l.length, fun t => ts.length - t.i, ⟨0, none, 0, []⟩,
                all_sl ⟨rfl, rfl, trivial⟩, rfl, ole_refl _, ⟨Nat.zero_le _, rfl, fun h => absurd h (Nat.lt_irrefl 0)⟩, loopOK (fun _ => ⟨⟨trivial, rfl⟩, ⟨trivial, rfl⟩, trivial⟩) (fun _ => rfl) (fun _ => rfl), ?_⟩
              rintro ⟨i, A, k2, l⟩ W7 l7 ⟨hi, hl, hA⟩ fr2
              dsimp only at hi hl hA
              have hll : l.length ≤ i := by rw [hl, List.length_map, List.length_take]; omega
              refine ⟨rfl, br_split (fun hq2 => ?_) (fun hq2 => ?_)⟩
              · have hq2 : (i : Int) < ts.length := hq2
                have inc := (i64_in ((i : Int) + 1) ⟨by omega, by omega⟩).symm
                obtain ⟨a5, rfl, x, hx, _, _, hr5⟩ := RP.at (f := typC) (sz := 2) (fun _ => rfl) hv l7 (j := (i : Int)) ⟨by omega, by omega⟩
                have hx : ts[i]? = some x := hx
                have hnext : (ts.take (i + 1)).map (fun t => (⟨t.space, nt⟩ : TypS)) = l ++ [⟨x.space, nt⟩] := by
                  rw [hl, List.take_add_one, hx, List.map_append]; rfl
                obtain ⟨xs, xr⟩ := x
                refine ⟨⟨by omega, hq2⟩, _, rfl, [strV xs, strV xr], rfl, Rds.o hr5, ?_⟩
                refine ⟨rfl, .inl fun bd Wd ld hrd => ⟨0, _, typC ⟨xs, nt⟩, rfl, rfl, rfl, rfl, rfl, typC_one _, fun _ => ⟨_, rfl, hrd.o⟩, by show l.length + 1 ≤ maxLen; omega, by show (l.length + 1) * 32 ≤ 140737488355328; omega, rfl, @fun Ae ce hAe => ?_⟩⟩
                refine ⟨rfl, _, inc, ⟨i + 1, Ae, ce, l ++ [⟨xs, nt⟩]⟩, all_sl ⟨?_, rfl, trivial⟩, rfl, ole_eq ?_, ⟨by dsimp only; omega, by dsimp only; rw [hnext], by dsimp only; rw [show (l ++ [(⟨xs, nt⟩ : TypS)]).length = l.length + 1 from List.length_append]; exact hAe⟩, by dsimp only; omega⟩
                · dsimp only; rw [show (l ++ [(⟨xs, nt⟩ : TypS)]).length = l.length + 1 from List.length_append]; rfl
                · exact congrArg (fun z => [z, nilO 227 2]) (by rw [show (l ++ [(⟨xs, nt⟩ : TypS)]).length = l.length + 1 from List.length_append]; exact (typesO_snoc Ae ce l ⟨xs, nt⟩).symm)
              · have hq2 : ¬ (i : Int) < ts.length := hq2
                rw [List.take_of_length_le (by omega)] at hl
                rw [← hl] at hT3
                refine ⟨rfl, ?_⟩
                apply br_split
                · intro h0
                  have h0 : (l.length : Int) = 0 := h0
                  have h0 : l = [] := List.length_eq_zero_iff.1 (by omega)
                  rw [if_pos h0] at hT3
                  refine ret_plain rfl fun W' _ => ?_
                  rw [hRn hT3]
                  exact ⟨_, rfl, fun l hl => by cases hl⟩
                · intro h0
                  have h0 : ¬ (l.length : Int) = 0 := h0
                  rw [if_neg (fun e => h0 (by rw [e]; rfl))] at hT3
                  exact ⟨l, A, k2, _, [[.v (.int .i64 p1), .v (.int .i64 p2)]], W7, rfl, l3.trans (l4.trans (l5.trans (l6.trans l7))), hT3, by omega, fun t ht => by rw [hl] at ht; obtain ⟨y, hy, rfl⟩ := List.mem_map.1 ht; exact ⟨(htsm y hy).1, y2⟩, .inr ⟨rfl, hA⟩, .inr ⟨_, _, rfl⟩, ⟨rfl, rfl, trivial⟩⟩
        · intro h3
          have h3 : ¬ k = 3 := h3
          have ets : namedT c (s1, s2) r ⟨k, nr, nt, na, nb⟩ = some [] := by
            unfold namedT
            rw [if_neg (show ¬ (NodeS.mk k nr nt na nb).kind = 1 from h1), if_neg (show ¬ (NodeS.mk k nr nt na nb).kind = 2 from h2), if_neg (show ¬ (NodeS.mk k nr nt na nb).kind = 3 from h3)]
          exact ⟨[], none, 0, _, [], W1, rfl, PW.Le.refl _, ets, Nat.zero_le _, (fun t ht => by cases ht), .inl ⟨rfl, RP.nil typC W1⟩, .inl rfl, ⟨rfl, rfl, trivial⟩⟩
  rintro f' S' ⟨ts, A0, k0, o0, s3, W2, rfl, l2, hts, hl, hsm, hk, h3, hfr⟩
  have e : findAll c ts = R := by rw [← hR]; unfold namedS; rw [hts]
  rw [← e]
  exact named_tail c ts hl hsm a W W2 (l1.trans l2) hidx f' A0 k0 o0 hk _ _ _ _ _ _ _ _ _ _ s3 h3 hfr
end Go.Proofs.Ytcgbcbdgjhnlaaa

