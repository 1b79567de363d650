/- Layer 18 (strata), walked: the relations that a node names. -/
import Derived.Test.YtcgbcbdgjhnlaaaVStrC
namespace Go.Proofs.Ytcgbcbdgjhnlaaa
open Go.RowKit

theorem findUp_none {c : ConfS} {l : List TypS} {i : Nat} (h : findUp c l i = none) : ∀ {j : Nat}, i ≤ j → findUp c l j = none
  | 0, hj => by obtain rfl : i = 0 := by omega
                exact h
  | j + 1, hj => by
    by_cases e : i = j + 1
    · rw [← e]; exact h
    · rw [findUp, findUp_none h (j := j) (by omega)]
theorem findUp_some {c : ConfS} {l : List TypS} {i : Nat} {out : List Spot} {t : TypS} {s : Spot} (h : findUp c l i = some out) (ht : l[i]? = some t) (hs : findS c t = some s) : findUp c l (i + 1) = some (out ++ [s]) := by
  rw [findUp, h, ht]
  dsimp only
  rw [hs]
theorem findUp_no {c : ConfS} {l : List TypS} {i : Nat} {out : List Spot} {t : TypS} (h : findUp c l i = some out) (ht : l[i]? = some t) (hs : findS c t = none) : findAll c l = none := by
  refine findUp_none (i := i + 1) ?_ (Nat.succ_le_of_lt (List.getElem?_eq_some_iff.1 ht).1)
  rw [findUp, h, ht]
  dsimp only
  rw [hs]
theorem findUp_len {c : ConfS} {l : List TypS} : ∀ {i : Nat} {out : List Spot}, findUp c l i = some out → out.length ≤ i
  | 0, out, h => by cases h; exact Nat.le_refl _
  | i + 1, out, h => by
    rw [findUp] at h
    split at h
    · rename_i o t h1 h2
      have := findUp_len h1
      split at h
      · cases h; rw [List.length_append]; exact Nat.succ_le_succ this
      · cases h
    · rename_i o h1 h2
      have := findUp_len h1
      cases h; omega
    · cases h

def spotO (v : Value) (l : List Spot) : Own := ⟨v, 227, 2, l.length, (l.map spotC).flatten⟩
theorem spotO_snoc (A : Option Addr) (c : Nat) (l : List Spot) (x : Spot) : (⟨.slice A (l.length + 1) c, 227, 2, l.length + 1, (l.map spotC).flatten ++ spotC x⟩ : Own) = spotO (.slice A (l ++ [x]).length c) (l ++ [x]) := by
  unfold spotO
  rw [List.length_append, flat_snoc]; rfl
theorem spotC_one (s : Spot) : ∀ u ∈ spotC s, u.oneCell' = true := by
  intro u hu
  simp only [spotC, List.mem_cons, List.not_mem_nil, or_false] at hu
  rcases hu with rfl | rfl <;> rfl
theorem raw_look2 {B : Base} {o : Oper} {m x : Operand} {g : Nat} {t : TypS} {c : ConfS} {fo : Option Spot} {f : Fr} {prot : List Nat} {S : GS} {K : GV → GS → Prop} (hfo : findS c t = fo) (ho : o.op = .lookup 222 m x true) (hm : evG f m = .v (.map (some g))) (hx : ∀ ρ, (evG f x).real ρ = .agg ⟨typC t⟩) (ht : smT t) (hM : AtM S.W g c)
    (hK : K (.v (.tuple ⟨[.agg ⟨spotC (fo.getD (0, 0))⟩, .bool fo.isSome]⟩)) S) : RawVC Try.prog B o f prot S K := by
  subst hfo
  exact raw_look ho hm hx ht hM hK
def OptR (W : PW) (v : Value) (o : Option (List Spot)) : Prop := ∃ u, v = .tuple ⟨[u, .bool o.isSome]⟩ ∧ ∀ l, o = some l → RP spotC W u l
structure FdSt where
  i : Nat
  A : Option Addr
  c : Nat
  l : List Spot
def tailNm : MC := match m175.code with | .seq _ (.seq _ (.seq _ (.seq _ b))) => b | c => c
set_option maxRecDepth 20000 in
set_option maxHeartbeats 16000000 in
theorem named_tail (c : ConfS) (ts : List TypS) (hl : ts.length ≤ 1000000) (hsm : ∀ t ∈ ts, smT t) (a : Addr) (W W1 : PW) (l01 : W.Le W1) (h : Idx W a c) (fr : Fr) (A0 : Option Addr) (k0 : Nat) (o0 : Own) (hk : o0 = nilO 166 2 ∧ RP typC W1 (.slice A0 ts.length k0) ts ∨ o0 = typesO (.slice A0 ts.length k0) ts ∧ OwnAt A0 ts.length)
    (x1 x2 y1 y2 y3 y4 y5 z1 z2 z3 : Value) (s3 : List (List PV)) (h3 : s3 = [] ∨ ∃ w1 w2, s3 = [[.v w1, .v w2]]) (hfr : AllSl fr [(0, .v (.pointer (some a))), (10, .v (.slice A0 ts.length k0))]) :
    vc Try.prog ⟨W, [], []⟩ fr ⟨[[.v x1, .v x2], [.v y1, .v y2, .v y3, .v y4, .v y5], [.v z1, .v z2, .v z3]] ++ s3, [o0, nilO 227 2], W1⟩ (retK ⟨W, [], []⟩ m175.rs fun v W' => OptR W' v (findAll c ts)) tailNm := by
  have hmax : (100000000 : Nat) ≤ maxLen := by decide
  have hidx := h
  obtain ⟨sv, kv, g, i1, i2, i3, i4⟩ := h
  obtain ⟨R, hR⟩ : ∃ R, findAll c ts = R := ⟨_, rfl⟩
  rw [hR]
  have hrd : ∀ (i : Nat) (t : TypS) (W2 : PW), ts[i]? = some t → W1.Le W2 → ∃ a0, A0 = some a0 ∧ ∀ (σ : List (List PV)) (o1 : Own), RdsO ⟨σ, [o0, o1], W2⟩ (a0.add (i * 2)) (typC t) := fun i t W2 ht lw => by
    have hi := (List.getElem?_eq_some_iff.1 ht).1
    rcases hk with ⟨_, hk⟩ | ⟨rfl, hA0⟩
    · obtain ⟨a', e, x, hx, _, _, hr⟩ := RP.at (f := typC) (sz := 2) (fun _ => rfl) hk lw (j := (i : Int)) ⟨by omega, by omega⟩
      obtain rfl : t = x := Option.some.inj (ht.symm.trans hx)
      exact ⟨a', e, fun σ o1 => Rds.o hr⟩
    · obtain ⟨gg, rfl⟩ := hA0 (by omega)
      refine ⟨_, rfl, fun σ o1 => ?_⟩
      intro j v hj
      refine .inr ⟨0, _, ⟨gg, 0, none⟩, ts.length, k0, i * 2 + j, rfl, rfl, by rw [Addr.add_add], ?_⟩
      have hj2 : j < 2 := (List.getElem?_eq_some_iff.1 hj).1
      show ((ts.map typC).flatten)[i * 2 + j]? = some v
      rw [flat_get (f := typC) (sz := 2) (fun _ => rfl) ht hj2]; exact hj
  refine vc_at _ hfr ?_
  clear hfr
  rcases h3 with rfl | ⟨w1, w2, rfl⟩
  all_goals
    refine ⟨FdSt, fun t => [(15, .v (.slice t.A t.l.length t.c)), (87, .v (.int .i64 t.i))], fun _ => _, fun t => [o0, spotO (.slice t.A t.l.length t.c) t.l], fun t _ => t.i ≤ ts.length ∧ findUp c ts t.i = some t.l, fun t => ts.length - t.i, ⟨0, none, 0, []⟩,
      all_sl ⟨rfl, rfl, trivial⟩, rfl, ole_refl _, ⟨Nat.zero_le _, rfl⟩, loopOK (fun _ => ⟨⟨trivial, rfl⟩, ⟨trivial, rfl⟩, trivial⟩) (fun _ => rfl) (fun _ => rfl), ?_⟩
    rintro ⟨i, A, k, l⟩ W2 l2 ⟨hi, hf⟩ fr2
    dsimp only at hi hf
    have hll := findUp_len hf
    refine ⟨rfl, br_split (fun hq => ?_) (fun hq => ?_)⟩
    · have hq : (i : Int) < ts.length := hq
      have inc := (i64_in ((i : Int) + 1) ⟨by omega, by omega⟩).symm
      obtain ⟨t, ht⟩ : ∃ t, ts[i]? = some t := ⟨ts[i]'(by omega), List.getElem?_eq_getElem (by omega)⟩
      obtain ⟨a0, rfl, hrd0⟩ := hrd i t W2 ht l2
      have hst := hsm t (List.mem_of_getElem? ht)
      have hM := i4.mono (l01.trans l2)
      have hs1 := fun s hs => findUp_some (s := s) hf ht hs
      have hs2 := fun hs => findUp_no hf ht hs
      obtain ⟨fo, hfo⟩ : ∃ fo, findS c t = fo := ⟨_, rfl⟩
      rw [hfo] at hs1 hs2
      have hlook := fun {o : Oper} {m x : Operand} {f : Fr} {prot : List Nat} {S : GS} {K : GV → GS → Prop} => raw_look2 (B := ⟨W, [], []⟩) (o := o) (m := m) (x := x) (g := g) (c := c) (f := f) (prot := prot) (S := S) (K := K) hfo
      clear hfo
      obtain ⟨t1, t2⟩ := t
      refine ⟨⟨by omega, hq⟩, _, rfl, [strV t1, strV t2], rfl, hrd0 _ _, .map (some g), ((i1.mono (l01.trans l2)) 2 _ rfl).o, ?_⟩
      refine ⟨?_, ?_⟩
      all_goals
        refine hlook rfl rfl (fun _ => rfl) hst hM ?_
        refine ⟨_, rfl, _, rfl, ?_⟩
        cases fo with
        | none =>
          refine ret_plain rfl fun W' _ => ?_
          rw [← hR, hs2 rfl]
          exact ⟨_, rfl, fun l hl => by cases hl⟩
        | some p =>
          obtain ⟨p1, p2⟩ := p
          refine ⟨rfl, .inl fun bd Wd ld hrd => ⟨1, _, spotC (p1, p2), rfl, rfl, rfl, rfl, rfl, spotC_one _, fun _ => ⟨_, rfl, Rds.o hrd⟩, by show l.length + 1 ≤ maxLen; omega, by show (l.length + 1) * 16 ≤ 140737488355328; omega, rfl, @fun Ae ce _ => ?_⟩⟩
          refine ⟨rfl, _, inc, ⟨i + 1, Ae, ce, l ++ [(p1, p2)]⟩, all_sl ⟨?_, rfl, trivial⟩, rfl, ole_eq ?_, ⟨by dsimp only; omega, hs1 (p1, p2) rfl⟩, by dsimp only; omega⟩
          · dsimp only; rw [show (l ++ [(p1, p2)]).length = l.length + 1 from List.length_append]; rfl
          · exact congrArg (fun z => [o0, z]) (spotO_snoc Ae ce l (p1, p2))
    · have hq : ¬ (i : Int) < ts.length := hq
      obtain rfl : i = ts.length := by omega
      have hf : findAll c ts = some l := hf
      rw [hf] at hR
      subst hR
      refine RetVC.freeze (fun _ hb => hb) (i := 1) rfl fun Wm lm hs0 => ?_
      exact ret_plain rfl fun W' l' => ⟨_, rfl, fun q hq => by cases hq; exact SlRead.mono hs0 l'⟩
end Go.Proofs.Ytcgbcbdgjhnlaaa

