/- Layer 18 (strata), walked: a relation by its place; the types that are sets; absences. -/
import Derived.Test.YtcgbcbdgjhnlaaaVStrA
namespace Go.Proofs.Ytcgbcbdgjhnlaaa
open Go.RowKit

theorem lt9 {n c : Nat} (h1 : n ≤ c) (h2 : c ≤ maxLen) : n ≤ 9223372036854775807 := Nat.le_trans h1 h2
theorem rd_ff {W : PW} {a : Addr} {cs : List Value} (h : Rds W a cs) {i j : Nat} {v : Value} (hv : cs[i + j]? = some v) : Rd W ((a.add i).add j) v := by
  rw [Addr.add_add]
  exact h _ _ hv
set_option maxHeartbeats 8000000 in
theorem rel_x (c : ConfS) (s : Spot) (r : RelS) (hr : relAt c s = some r) (a : Addr) (W : PW) (h : Idx W a c) : CallsX Try.prog 172 ⟨[.pointer (some a), .agg ⟨spotC s⟩]⟩ [] W fun v W' => ∃ cs, v = .agg ⟨cs⟩ ∧ RelR W' r cs := by
  obtain ⟨sv, kv, g, h1, h2, h3, h4⟩ := h
  unfold relAt at hr
  obtain ⟨sp, hsp, hr⟩ := Option.bind_eq_some_iff.1 hr
  obtain ⟨A0, c0, rfl, q1, q2⟩ := h2.form
  have hi := (List.getElem?_eq_some_iff.1 hsp).1
  have hk := (List.getElem?_eq_some_iff.1 hr).1
  refine pureX hmix Try.func172 r172 (by kernel_rfl) [.pointer (some a), .agg ⟨spotC s⟩] rfl ?_
  obtain ⟨a0, rfl, sp', cs0, hx0, hc0, hR0, hr0, _⟩ := RL.at SpR.mono h2 (PW.Le.refl W) (j := (s.1 : Int)) ⟨by omega, by omega⟩
  obtain rfl : sp = sp' := Option.some.inj (hsp.symm.trans hx0)
  obtain ⟨rv, rfl, hrels⟩ := hR0
  obtain ⟨A1, c1, rfl, q3, q4⟩ := hrels.form
  obtain ⟨a1, rfl, r', cs1, hx1, hc1, hR1, _, hr1⟩ := RL.at RelR.mono hrels (PW.Le.refl W) (j := (s.2 : Int)) ⟨by omega, by omega⟩
  obtain rfl : r = r' := Option.some.inj (hr.symm.trans hx1)
  obtain ⟨tv, nv, rfl, hT, hN⟩ := hR1
  obtain ⟨A2, c2, rfl, _, _⟩ := hT.form
  obtain ⟨A3, c3, rfl, _, _⟩ := hN.form
  refine ⟨.slice (some a0) c.spaces.length c0, (rd_ff h1 (i := 0) (j := 0) rfl).o, ⟨by omega, by show (s.1 : Int) < c.spaces.length; omega⟩, _, rfl, .slice (some a1) sp.rels.length c1, (hr0 1 _ rfl).o, ⟨by omega, by show (s.2 : Int) < sp.rels.length; omega⟩, _, rfl, [strV r.name, .slice A2 r.types.length c2, .slice A3 r.nodes.length c3], rfl, Rds.o hr1, ?_⟩
  exact ret_plain rfl fun W' lw => ⟨_, rfl, _, _, rfl, hT.mono lw, hN.mono lw⟩
structure TySt where
  i : Nat
  A : Option Addr
  c : Nat
  l : List TypS
set_option maxHeartbeats 8000000 in
theorem sets_x (ts : List TypS) (u : Value) (W : PW) (hu : RP typC W u ts) (hts : ts.length ≤ 1000000) : CallsX Try.prog 173 ⟨[u]⟩ [] W fun v W' => RP typC W' v (setsS ts) := by
  obtain ⟨A0, c0, rfl, k1, k2⟩ := hu.form
  have hml := lt9 k1 k2
  refine pureNX hmix Try.func173 r173 (by kernel_rfl) [nilO 166 2] rfl [.slice A0 ts.length c0] rfl ?_
  refine ⟨TySt, fun t => [(3, .v (.slice t.A t.l.length t.c)), (8, .v (.int .i64 t.i))], fun _ => [], fun t => [typesO (.slice t.A t.l.length t.c) t.l], fun t _ => t.i ≤ ts.length ∧ t.l = setsS (ts.take t.i), fun t => ts.length - t.i, ⟨0, none, 0, []⟩,
    all_sl ⟨rfl, rfl, trivial⟩, rfl, ole_refl _, ⟨Nat.zero_le _, rfl⟩, loopOK (fun _ => ⟨⟨trivial, rfl⟩, ⟨trivial, rfl⟩, trivial⟩) (fun _ => rfl) (fun _ => rfl), ?_⟩
  rintro ⟨i, A, c, l⟩ W1 l1 ⟨hi, hl⟩ fr
  dsimp only at hi hl
  have hll : l.length ≤ i := by
    rw [hl]
    exact Nat.le_trans (List.length_filter_le _ _) (by rw [List.length_take]; omega)
  refine ⟨rfl, br_split (fun hq => ?_) (fun hq => ?_)⟩
  · have hq : (i : Int) < ts.length := hq
    have inc := (i64_in ((i : Int) + 1) ⟨by omega, by omega⟩).symm
    obtain ⟨a, rfl, x, hx, _, _, hr⟩ := RP.at (f := typC) (sz := 2) (fun _ => rfl) hu l1 (j := (i : Int)) ⟨by omega, by omega⟩
    have hx : ts[i]? = some x := hx
    have hnext := setsS_take hx
    obtain ⟨xs, xr⟩ := x
    refine ⟨⟨by omega, hq⟩, _, rfl, [strV xs, strV xr], rfl, Rds.o hr, br_nsplit (fun hn => ?_) (fun hn => ?_)⟩
    · have hn : ¬ xs = [] := hn
      rw [if_neg (show ¬ (TypS.mk xs xr).space = [] from hn)] at hnext
      refine ⟨rfl, .inl fun bd Wd ld hrd => ⟨0, _, typC ⟨xs, xr⟩, rfl, rfl, rfl, rfl, rfl, typC_one _, fun _ => ⟨_, rfl, hrd.o⟩, by show l.length + 1 ≤ maxLen; exact Nat.le_trans (show l.length + 1 ≤ ts.length by omega) (Nat.le_trans k1 k2), by show (l.length + 1) * 32 ≤ 140737488355328; omega, rfl, @fun Ae ce _ => ?_⟩⟩
      refine ⟨rfl, _, inc, ⟨i + 1, Ae, ce, l ++ [⟨xs, xr⟩]⟩, all_sl ⟨?_, rfl, trivial⟩, rfl, ole_eq ?_, ⟨by dsimp only; omega, by dsimp only; rw [hnext, hl]⟩, by dsimp only; omega⟩
      · dsimp only; rw [List.length_append]; rfl
      · dsimp only; rw [List.length_append]; exact congrArg (fun z => [z]) (typesO_snoc Ae ce l ⟨xs, xr⟩).symm
    · have hn : xs = [] := hn
      rw [if_pos (show (TypS.mk xs xr).space = [] from hn), List.append_nil] at hnext
      exact ⟨rfl, _, inc, ⟨i + 1, A, c, l⟩, all_sl ⟨rfl, rfl, trivial⟩, rfl, ole_refl _, ⟨by dsimp only; omega, by dsimp only; rw [hnext, hl]⟩, by dsimp only; omega⟩
  · have hq : ¬ (i : Int) < ts.length := hq
    rw [List.take_of_length_le (by omega)] at hl
    refine RetVC.freeze (fun _ hb => hb) (i := 0) rfl fun Wm lm hs0 => ?_
    exact ret_plain rfl fun W' l' => by rw [← hl]; exact SlRead.mono hs0 l'
end Go.Proofs.Ytcgbcbdgjhnlaaa

