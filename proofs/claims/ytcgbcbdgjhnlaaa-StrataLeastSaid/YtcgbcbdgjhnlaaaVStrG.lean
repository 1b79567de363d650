/- Layer 18 (strata), walked: all edges. -/
import Derived.Test.YtcgbcbdgjhnlaaaVStrF
namespace Go.Proofs.Ytcgbcbdgjhnlaaa
open Go.RowKit

theorem relsUp_none {c : ConfS} {x i : Nat} (h : relsUp c x i = none) : ∀ {j : Nat}, i ≤ j → relsUp c x j = none
  | 0, hj => by obtain rfl : i = 0 := by omega
                exact h
  | j + 1, hj => by
    by_cases e : i = j + 1
    · rw [← e]; exact h
    · rw [relsUp, relsUp_none h (j := j) (by omega)]
theorem spacesUp_none {c : ConfS} {i : Nat} (h : spacesUp c i = none) : ∀ {j : Nat}, i ≤ j → spacesUp c j = none
  | 0, hj => by obtain rfl : i = 0 := by omega
                exact h
  | j + 1, hj => by
    by_cases e : i = j + 1
    · rw [← e]; exact h
    · rw [spacesUp, spacesUp_none h (j := j) (by omega)]
theorem relsUp_some {c : ConfS} {x k : Nat} {out l : List EdgeS} (h : relsUp c x k = some out) (hl : edgesS c (x, k) = some l) : relsUp c x (k + 1) = some (out ++ l) := by
  rw [relsUp, h, hl]
theorem relsUp_no {c : ConfS} {x k n : Nat} (hl : edgesS c (x, k) = none) (hk : k < n) : relsUp c x n = none := by
  refine relsUp_none (i := k + 1) ?_ hk
  rw [relsUp, hl]
  cases relsUp c x k <;> rfl
theorem spacesUp_some {c : ConfS} {i : Nat} {out l : List EdgeS} {s : SpaceS} (h : spacesUp c i = some out) (hs : c.spaces[i]? = some s) (hl : relsUp c i s.rels.length = some l) : spacesUp c (i + 1) = some (out ++ l) := by
  rw [spacesUp, h, hs]
  dsimp only
  rw [hl]
theorem spacesUp_no {c : ConfS} {i : Nat} {out : List EdgeS} {s : SpaceS} (h : spacesUp c i = some out) (hs : c.spaces[i]? = some s) (hl : relsUp c i s.rels.length = none) : spacesUp c c.spaces.length = none := by
  refine spacesUp_none (i := i + 1) ?_ (Nat.succ_le_of_lt (List.getElem?_eq_some_iff.1 hs).1)
  rw [spacesUp, h, hs]
  dsimp only
  rw [hl]
theorem relsUp_len {c : ConfS} (hS : SmC c) {x : Nat} : ∀ {k : Nat} {out : List EdgeS}, relsUp c x k = some out → out.length ≤ 1000000 * k
  | 0, out, h => by cases h; exact Nat.le_refl _
  | k + 1, out, h => by
    rw [relsUp] at h
    split at h
    · rename_i o l h1 h2
      have := relsUp_len hS h1
      have := edgesS_len hS h2
      cases h
      rw [List.length_append]; omega
    · cases h
theorem spacesUp_len {c : ConfS} (hS : SmC c) : ∀ {i : Nat} {out : List EdgeS}, spacesUp c i = some out → out.length ≤ 1000000000 * i
  | 0, out, h => by cases h; exact Nat.le_refl _
  | i + 1, out, h => by
    rw [spacesUp] at h
    split at h
    · rename_i o s h1 h2
      have := spacesUp_len hS h1
      have := hS.2.2.2.1 s (List.mem_of_getElem? h2)
      split at h
      · rename_i l hl
        have := relsUp_len hS hl
        cases h; rw [List.length_append]; omega
      · cases h
    · rename_i o h1 h2
      have := spacesUp_len hS h1
      cases h; omega
    · cases h
theorem edgesS_rel {c : ConfS} {x k : Nat} {sp : SpaceS} (h : c.spaces[x]? = some sp) (hk : k < sp.rels.length) : ∃ r, relAt c (x, k) = some r := by
  unfold relAt
  rw [h]
  exact ⟨sp.rels[k], List.getElem?_eq_getElem hk⟩

theorem edges_flat (l : List EdgeS) : ((l.map edgeC).flatten).length = l.length * 5 := by
  induction l with
  | nil => rfl
  | cons b l ih => rw [List.map_cons, List.flatten_cons, List.length_append, ih, List.length_cons]; show 5 + _ = _; omega
theorem edgeO_app (A : Option Addr) (c : Nat) (l m : List EdgeS) : (⟨.slice A (l.length + m.length) c, 231, 5, l.length + m.length, (l.map edgeC).flatten ++ (m.map edgeC).flatten⟩ : Own) = edgeO (.slice A (l ++ m).length c) (l ++ m) := by
  unfold edgeO
  rw [List.length_append, List.map_append, List.flatten_append]
set_option maxRecDepth 20000 in
set_option maxHeartbeats 16000000 in
theorem all_x (c : ConfS) (hS : SmC c) (a : Addr) (W : PW) (h : Idx W a c) :
    CallsX Try.prog 116 ⟨[.pointer (some a)]⟩ [] W fun v W' => OptE W' v (allE c) := by
  have hmax : (100000000000000 : Nat) ≤ maxLen := by decide
  have hidx := h
  obtain ⟨sv, kv, g, i1, i2, i3, i4⟩ := h
  obtain ⟨R, hR⟩ : ∃ R, allE c = R := ⟨_, rfl⟩
  have hdef : R = match spacesUp c c.spaces.length with | none => none | some l => if c.scopes.all (fun s => (findS c (scopeKey s)).isSome) = true then some l else none := by rw [← hR]; rfl
  rw [hR]
  obtain ⟨A0, c0, rfl, _, _⟩ := i2.form
  obtain ⟨A4, c4, rfl, _, _⟩ := i3.form
  have hN := hS.2.2.1
  have hK := hS.2.2.2.2
  refine pureNX hmix Try.func116 r116 (by kernel_rfl) [nilO 231 5] rfl [.pointer (some a)] rfl ?_
  refine ⟨.slice A0 c.spaces.length c0, (rd_ff i1 (i := 0) (j := 0) rfl).o, ?_⟩
  refine ⟨EdSt, fun t => [(4, .v (.slice t.A t.l.length t.c)), (20, .v (.int .i64 t.i))], fun _ => _, fun t => [edgeO (.slice t.A t.l.length t.c) t.l], fun t _ => t.i ≤ c.spaces.length ∧ spacesUp c t.i = some t.l, fun t => c.spaces.length - t.i, ⟨0, none, 0, []⟩,
    all_sl ⟨rfl, rfl, trivial⟩, rfl, ole_refl _, ⟨Nat.zero_le _, rfl⟩, loopOK (fun _ => ⟨⟨trivial, rfl⟩, ⟨trivial, rfl⟩, trivial⟩) (fun _ => rfl) (fun _ => rfl), ?_⟩
  rintro ⟨i, A, k, l⟩ W1 l1 ⟨hi, hl⟩ fr
  dsimp only at hi hl
  have hll := spacesUp_len hS hl
  refine ⟨rfl, br_split (fun hq => ?_) (fun hq => ?_)⟩
  · have hq : (i : Int) < c.spaces.length := hq
    have inc := (i64_in ((i : Int) + 1) ⟨by omega, by omega⟩).symm
    obtain ⟨a0, rfl, sp, cs0, hsp, hc0, hR0, _, hr0⟩ := RL.at SpR.mono i2 l1 (j := (i : Int)) ⟨by omega, by omega⟩
    have hsp : c.spaces[i]? = some sp := hsp
    have hrl := hS.2.2.2.1 sp (List.mem_of_getElem? hsp)
    have hs1 := fun m hm => spacesUp_some (l := m) hl hsp hm
    have hs2 := fun hm => spacesUp_no hl hsp hm
    obtain ⟨rv, rfl, hrels⟩ := hR0
    obtain ⟨A1, c1, rfl, _, _⟩ := hrels.form
    refine ⟨⟨by omega, hq⟩, _, rfl, [strV sp.name, .slice A1 sp.rels.length c1], rfl, Rds.o hr0, ?_⟩
    refine ⟨EdSt, fun t => [(4, .v (.slice t.A t.l.length t.c)), (28, .v (.int .i64 t.i))], fun _ => _, fun t => [edgeO (.slice t.A t.l.length t.c) t.l], fun t _ => t.i ≤ sp.rels.length ∧ ∃ m, relsUp c i t.i = some m ∧ t.l = l ++ m, fun t => sp.rels.length - t.i, ⟨0, A, k, l⟩,
      all_sl ⟨rfl, rfl, trivial⟩, rfl, ole_refl _, ⟨Nat.zero_le _, [], rfl, (List.append_nil l).symm⟩, loopOK (fun _ => ⟨⟨trivial, rfl⟩, ⟨trivial, rfl⟩, trivial⟩) (fun _ => rfl) (fun _ => rfl), ?_⟩
    rintro ⟨j, B, kb, q⟩ W2 l2 ⟨hj, m, hm, hqe⟩ fr2
    dsimp only at hj hm hqe
    have hml := relsUp_len hS hm
    have hqlen : q.length = l.length + m.length := by rw [hqe, List.length_append]
    refine ⟨rfl, br_split (fun hq2 => ?_) (fun hq2 => ?_)⟩
    · have hq2 : (j : Int) < sp.rels.length := hq2
      have inc2 := (i64_in ((j : Int) + 1) ⟨by omega, by omega⟩).symm
      obtain ⟨r, hr⟩ := edgesS_rel (k := j) hsp (by omega)
      have hcall := fun W' lw => edges_x c hS (i, j) r hr a W' (hidx.mono (l1.trans (PW.Le.trans l2 lw)))
      have hr1 := fun e he => relsUp_some (l := e) hm he
      have hr2 := fun he => relsUp_no (n := sp.rels.length) (c := c) (x := i) (k := j) he (by omega)
      have hr3 := fun e he => edgesS_len (out := e) hS (s := (i, j)) he
      obtain ⟨eo, heo⟩ : ∃ eo, edgesS c (i, j) = eo := ⟨_, rfl⟩
      rw [heo] at hr1 hr2 hr3 hcall
      refine call_v rfl (fun W' lw => hcall W' lw) (fun W3 v W4 l3 l4 hv => ?_)
      obtain ⟨u, rfl, hu⟩ := hv
      refine ⟨_, rfl, _, rfl, ?_⟩
      cases eo with
      | none =>
        refine ret_plain rfl fun W' _ => ?_
        rw [hdef, hs2 (hr2 rfl)]
        exact ⟨_, rfl, fun l hl => by cases hl⟩
      | some e =>
        have hu := hu e rfl
        have hr1 := hr1 e rfl
        have hr3 := hr3 e rfl
        clear hcall hr2
        obtain ⟨A9, c9, rfl, _, _⟩ := hu.form
        obtain ⟨_, _, e9, _, _, hu4⟩ := hu
        have hu4 : 0 < e.length → ∃ a, A9 = some a ∧ Rds W4 a (e.map edgeC).flatten := by cases e9; exact hu4
        refine ⟨0, _, (e.map edgeC).flatten, rfl, rfl, rfl, rfl, edges_flat e, flat_one edgeC_one e, fun h0 => let ⟨a9, h9, h10⟩ := hu4 h0; ⟨a9, h9, Rds.o h10⟩, by show q.length + e.length ≤ maxLen; omega, by show (q.length + e.length) * 40 ≤ 140737488355328; omega, rfl, @fun Ae ce _ => ?_⟩
        refine ⟨rfl, _, inc2, ⟨j + 1, Ae, ce, q ++ e⟩, all_sl ⟨?_, rfl, trivial⟩, rfl, ole_eq ?_, ⟨by dsimp only; omega, m ++ e, hr1, by dsimp only; rw [hqe, List.append_assoc]⟩, by dsimp only; omega⟩
        · dsimp only; rw [show (q ++ e).length = q.length + e.length from List.length_append]; rfl
        · exact congrArg (fun z => [z]) (edgeO_app Ae ce q e)
    · have hq2 : ¬ (j : Int) < sp.rels.length := hq2
      obtain rfl : j = sp.rels.length := by omega
      exact ⟨rfl, _, inc, ⟨i + 1, B, kb, q⟩, all_sl ⟨rfl, rfl, trivial⟩, rfl, ole_refl _, ⟨by dsimp only; omega, by dsimp only; rw [hqe]; exact hs1 m hm⟩, by dsimp only; omega⟩
  · have hq : ¬ (i : Int) < c.spaces.length := hq
    obtain rfl : i = c.spaces.length := by omega
    rw [hl] at hdef
    dsimp only at hdef
    refine ⟨.slice A4 c.scopes.length c4, (rd_ff (i1.mono l1) (i := 0) (j := 1) rfl).o, ?_⟩
    refine ⟨FoSt, fun t => [(52, .v (.int .i64 t.i))], fun _ => _, fun t => [edgeO (.slice A l.length k) l], fun t _ => t.i ≤ c.scopes.length ∧ ∀ s ∈ c.scopes.take t.i, (findS c (scopeKey s)).isSome = true, fun t => c.scopes.length - t.i, ⟨0⟩,
      all_sl ⟨rfl, trivial⟩, rfl, ole_refl _, ⟨Nat.zero_le _, fun s hs => by cases hs⟩, loopOK (fun _ => ⟨⟨trivial, rfl⟩, trivial⟩) (fun _ => rfl) (fun _ => rfl), ?_⟩
    rintro ⟨i⟩ W5 l5 ⟨hi, hf⟩ fr2
    dsimp only at hi hf
    refine ⟨rfl, br_split (fun hq => ?_) (fun hq => ?_)⟩
    · have hq : (i : Int) < c.scopes.length := hq
      have inc := (i64_in ((i : Int) + 1) ⟨by omega, by omega⟩).symm
      obtain ⟨a5, rfl, s, hs, _, _, hr5⟩ := RP.at (f := scopeC) (sz := 4) (fun _ => rfl) i3 (l1.trans l5) (j := (i : Int)) ⟨by omega, by omega⟩
      have hs : c.scopes[i]? = some s := hs
      have hsm := hS.2.1 s (List.mem_of_getElem? hs)
      have hst : smT (scopeKey s) := ⟨hsm.2.1.1, hsm.2.2⟩
      have hM := i4.mono (l1.trans l5)
      have hs1 : (findS c (scopeKey s)).isSome = true → ∀ s ∈ c.scopes.take (i + 1), (findS c (scopeKey s)).isSome = true := fun h s' hs' => by
        rw [List.take_add_one, hs] at hs'
        rcases List.mem_append.1 hs' with hs' | hs'
        · exact hf s' hs'
        · rw [List.mem_singleton.1 hs']; exact h
      have hs2 : findS c (scopeKey s) = none → R = none := fun h => by
        rw [hdef, if_neg]
        intro h2
        have := List.all_eq_true.1 h2 s (List.mem_of_getElem? hs)
        rw [h] at this
        exact absurd this (by decide)
      obtain ⟨fo, hfo⟩ : ∃ fo, findS c (scopeKey s) = fo := ⟨_, rfl⟩
      rw [hfo] at hs1 hs2
      have hlook := fun {o : Oper} {m x : Operand} {f : Fr} {prot : List Nat} {S : GS} {K : GV → GS → Prop} => raw_look2 (B := ⟨W, [], []⟩) (o := o) (m := m) (x := x) (g := g) (c := c) (f := f) (prot := prot) (S := S) (K := K) hfo
      clear hfo
      obtain ⟨n, ⟨osp, oid⟩, rl⟩ := s
      refine ⟨⟨by omega, hq⟩, _, rfl, [strV n, strV osp, strV oid, strV rl], rfl, Rds.o hr5, .map (some g), ((i1.mono (l1.trans l5)) 2 _ rfl).o, ?_⟩
      refine ⟨?_, ?_⟩
      all_goals
        refine hlook rfl rfl (fun _ => rfl) hst hM ?_
        refine ⟨_, rfl, _, rfl, ?_⟩
        cases fo with
        | none =>
          refine ret_plain rfl fun W' _ => ?_
          rw [hs2 rfl]
          exact ⟨_, rfl, fun l hl => by cases hl⟩
        | some p =>
          obtain ⟨p1, p2⟩ := p
          exact ⟨rfl, _, inc, ⟨i + 1⟩, all_sl ⟨rfl, trivial⟩, rfl, ole_refl _, ⟨by dsimp only; omega, hs1 rfl⟩, by dsimp only; omega⟩
    · have hq : ¬ (i : Int) < c.scopes.length := hq
      obtain rfl : i = c.scopes.length := by omega
      rw [List.take_length] at hf
      rw [if_pos (List.all_eq_true.2 hf)] at hdef
      subst hdef
      refine RetVC.freeze (fun _ hb => hb) (i := 0) rfl fun Wm lm hs0 => ?_
      exact ret_plain rfl fun W' l' => ⟨_, rfl, fun q hq => by cases hq; exact SlRead.mono hs0 l'⟩
end Go.Proofs.Ytcgbcbdgjhnlaaa

