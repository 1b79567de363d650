/- Layer 35 (reply): slices.Grow of the nil slice; slices.Concat of two lists of pairs. -/
import Derived.Test.YtkhgmmejgikgnaaDoorQueF
import Derived.Test.YtkhgmmejgikgnaaDoorCodeRR
import Derived.WalkKit
import Derived.Lib.AppendZeros
import Derived.Lib.Walk
import Derived.Lib.SliceRun
namespace Go.Proofs.YtkhgmmejgikgnaaDoor
open Go.RowKit Go.Lib

theorem info_pair : ∃ i, Tryd.prog.info? 71 = some i ∧ i.zero = some (.agg #[.string ⟨#[]⟩, .string ⟨#[]⟩]) ∧ i.size = 2 ∧ i.bytes = 32 := by
  have h : (Tryd.prog.info? 71).map (fun i => (i.zero, i.size, i.bytes)) = some (some (.agg #[.string ⟨#[]⟩, .string ⟨#[]⟩]), 2, 32) := by kernel_rfl
  cases hi : Tryd.prog.info? 71 with
  | none => rw [hi] at h; cases h
  | some i =>
    rw [hi] at h
    simp only [Option.map_some, Option.some.injEq, Prod.mk.injEq] at h
    exact ⟨i, rfl, h.1, h.2.1, h.2.2⟩
set_option maxHeartbeats 4000000 in
set_option maxRecDepth 100000 in
theorem growRun (n : Nat) (h0 : 0 < n) (hn : n ≤ 100000) (w : World) : Calls Tryd.prog 112 #[.slice none 0 0, .int .i64 n] w fun e w' =>
    ∃ c, e = .returned (.slice (some ⟨w.heap.size, 0, none⟩) 0 c) ∧ n ≤ c ∧ c ≤ maxLen ∧ ∃ cur : Array Value, cur.size = c * 2 ∧ w' = w.drew.alloc (.cells cur 71) := by
  have h1 : ¬ ((n : Int) < 0) := by omega
  have h2 : wrap64 ((n : Int) - 0) = (n : Int) := by unfold wrap64; omega
  have h4 : (n : Int) > 0 := by omega
  obtain ⟨i0, hi0, hz0, hs0, hb0⟩ := info_pair
  have hrz : ∀ ty, (Builtin.append_ #[23, 3] ty #[.slice none 0 0, .int .i64 n]).run Tryd.prog w = _ := fun ty =>
    Lib.run_append_nil_zeros (P := Tryd.prog) w 23 3 ty 71 i0 _ .i64 .i64 Tryd.underlying23 Tryd.underlying3 hi0 hz0 n h0 (by omega) (by omega) (by rw [hb0]; omega)
  have hGn : n ≤ grownCap w n 0 71 := grownCap_ge w _ _ _
  have hGm := grownCap_le_maxLen w n 0 71 (by unfold maxLen; omega)
  generalize hG : grownCap w n 0 71 = G at hrz hGn hGm
  have hG63 : G ≤ 9223372036854775807 := by unfold maxLen at hGm; omega
  have hcs : (Builtin.zeroCells (Value.agg #[.string ⟨#[]⟩, .string ⟨#[]⟩]).cells n ++ Builtin.zeroCells (Value.agg #[.string ⟨#[]⟩, .string ⟨#[]⟩]).cells (G - n)).size = G * 2 := by
    rw [Array.size_append, size_zeroCells, size_zeroCells, ← Nat.add_mul]; (have : n + (G - n) = G := by omega); rw [this]; rfl
  generalize Builtin.zeroCells (Value.agg #[.string ⟨#[]⟩, .string ⟨#[]⟩]).cells n ++ Builtin.zeroCells (Value.agg #[.string ⟨#[]⟩, .string ⟨#[]⟩]).cells (G - n) = cur at hrz hcs
  clear hG hi0 hz0 hs0 hb0
  go_enter Tryd.func112, Tryd.ntmps112
  go_wp2_with (at_builtin; refine Lib.wpList_append_run _ rfl _ _ _ _ rfl _ _ rfl rfl _ _ (hrz _) ?_)
  all_goals (go_ret; exact ⟨G, rfl, hGn, hGm, cur, hcs, rfl⟩)

theorem grow_x (n : Nat) (h0 : 0 < n) (hn : n ≤ 100000) (W : PW) : CallsX Tryd.prog 112 ⟨[.slice none 0 0, .int .i64 n]⟩ [] W fun v W' =>
    ∃ A c, v = .slice A 0 c ∧ OwnS [] W.w.heap.size W' ⟨.slice A 0 c, 71, 2, 0, []⟩ :=
  ⟨k112, (growRun n h0 hn W.w).mono fun e w' ⟨c, he, h1, h2, cur, h3, h4⟩ => by
    have hb : Below W.w.heap.size W.w w' := h4 ▸ (Below.refl W.w.heap.size W.w).drew.alloc (Nat.le_refl _) _
    refine ⟨.slice (some ⟨W.w.heap.size, 0, none⟩) 0 c, ⟨w', W.A, fun b hA => Nat.lt_of_lt_of_le (W.lt b hA) hb.size⟩, he, rfl,
      ⟨⟨hb.os, hb.tape, hb.output, hb.size, fun b hb1 _ => hb.block b hb1⟩, ⟨hb.size, fun _ h => h, fun b hA => hb.block b (W.lt b hA)⟩, fun _ h => .inl h⟩, _, c, rfl, ?_, fun b hob => ?_⟩
    · subst h4
      exact World.ownsRow_made W.w.drew cur c (Nat.zero_le _) h2 h3
    · obtain rfl : W.w.heap.size = b := by simpa [Value.ownBlock] using hob
      exact ⟨fun hA => Nat.lt_irrefl _ (W.lt _ hA), .inr (Nat.le_refl _)⟩⟩

theorem pairs_one (l : List PairS) : ∀ u ∈ (l.map pairC).flatten, u.oneCell' = true := fun u hu => by
  obtain ⟨x, hx, hu⟩ := List.mem_flatten.1 hu
  obtain ⟨p, _, rfl⟩ := List.mem_map.1 hx
  exact pairC_one p u hu
def oneV (v : Value) : List Value := [v]
theorem flat_step {α : Type} {ls : List (List α)} {i : Nat} {l : List α} (h : ls[i]? = some l) : (ls.take (i + 1)).flatten = (ls.take i).flatten ++ l := by rw [List.take_add_one, h]; simp
theorem flat_le {α : Type} (ls : List (List α)) (i : Nat) : (ls.take i).flatten.length ≤ ls.flatten.length := by
  have := congrArg (fun x => x.flatten.length) (List.take_append_drop i ls)
  simp only [List.flatten_append, List.length_append] at this; omega
set_option maxHeartbeats 4000000 in
theorem concat_x (vs : List Value) (ls : List (List PairS)) (hvl : vs.length = ls.length) (hk : ls.length ≤ 10) (hn : 0 < ls.flatten.length) (hm : ls.flatten.length ≤ 10000) (t : Value) (W : PW) (h : RP oneV W t vs)
    (hv : ∀ (j : Nat) (v : Value) (l : List PairS), vs[j]? = some v → ls[j]? = some l → RP pairC W v l) : CallsX Tryd.prog 71 ⟨[t]⟩ [] W fun v W' => RP pairC W' v ls.flatten := by
  obtain ⟨a1, c1, rfl, _, _⟩ := h.form
  have hmax : (100000000 : Nat) ≤ maxLen := by decide
  refine pureX hmix Tryd.func71 r71 (by kernel_rfl) [.slice a1 vs.length c1] rfl ?_
  refine ⟨Nat, fun i => [(3, .v (.int .i64 ((ls.take i).flatten.length))), (11, .v (.int .i64 i))], fun _ => [], fun _ => [], fun i _ => i ≤ vs.length, fun i => vs.length - i, 0,
    all_sl ⟨rfl, rfl, trivial⟩, rfl, ole_refl _, Nat.zero_le _, loopOK (fun _ => ⟨⟨trivial, rfl⟩, ⟨trivial, rfl⟩, trivial⟩) (fun _ => rfl) (fun _ => rfl), ?_⟩
  intro i W1 l1 hi fr
  refine ⟨rfl, br_split (fun hq => ?_) (fun hq => ?_)⟩
  · have hq : (i : Int) < vs.length := hq
    obtain ⟨p1, rfl, x, hx, _, h0, _⟩ := h.at (sz := 1) (fun _ => rfl) l1 (j := i) ⟨by omega, hq⟩
    have hx : vs[i]? = some x := hx
    obtain ⟨l, hl⟩ : ∃ l, ls[i]? = some l := ⟨_, List.getElem?_eq_getElem (by omega)⟩
    obtain ⟨a2, c2, rfl, _, _⟩ := (hv i x l hx hl).form
    have e := flat_step hl
    have e2 := flat_le ls (i + 1)
    rw [e, List.length_append] at e2
    obtain ⟨z, hz⟩ : ∃ z : Int, z = ((ls.take i).flatten.length : Int) + (l.length : Int) := ⟨_, rfl⟩
    refine ⟨⟨by omega, hq⟩, p1, rfl, .slice a2 l.length c2, (h0 (by decide) _ rfl).o, rfl, z, hz.trans (i64_in (((ls.take i).flatten.length : Int) + (l.length : Int)) ⟨by omega, by omega⟩).symm, rfl, ?_⟩
    apply br_split
    · intro hneg
      exact absurd hneg (by omega)
    · intro hneg
      refine ⟨rfl, _, (i64_in ((i : Int) + 1) ⟨by omega, by omega⟩).symm, i + 1, all_sl ⟨?_, rfl, trivial⟩, rfl, ole_refl _, by omega, by dsimp only; omega⟩
      show GV.v (.int .i64 _) = GV.v (.int .i64 _)
      rw [e, List.length_append, Int.natCast_add, hz]
  · have hq : ¬ (i : Int) < vs.length := hq
    obtain rfl : i = vs.length := by omega
    have e : (ls.take vs.length).flatten = ls.flatten := by rw [hvl, List.take_length]
    refine call_ownR rfl (fun W2 l2 => (grow_x (ls.take vs.length).flatten.length (by rw [e]; exact hn) (by rw [e]; omega) W2).after fun v W3 l3 hv3 l4 => ?_)
    obtain ⟨A0, c0, rfl, ho⟩ := hv3
    refine ⟨_, ho, ?_⟩
    have hflat : ∀ x ∈ ls.flatten.map pairC, x.length = 2 := fun x hx => by obtain ⟨p, _, rfl⟩ := List.mem_map.1 hx; rfl
    refine ⟨FSt, fun t => [(6, .v (.slice t.A (ls.take t.i).flatten.length t.c)), (27, .v (.int .i64 t.i))], fun _ => [], fun t => [⟨.slice t.A (ls.take t.i).flatten.length t.c, 71, 2, (ls.take t.i).flatten.length, ((ls.take t.i).flatten.map pairC).flatten⟩], fun t _ => t.i ≤ vs.length, fun t => vs.length - t.i, ⟨0, A0, c0⟩,
      all_sl ⟨rfl, rfl, trivial⟩, rfl, ole_refl _, Nat.zero_le _, loopOK (fun _ => ⟨⟨trivial, rfl⟩, ⟨trivial, rfl⟩, trivial⟩) (fun _ => rfl) (fun _ => rfl), ?_⟩
    rintro ⟨i, A, c⟩ W5 l5 hi fr
    dsimp only at hi
    refine ⟨rfl, br_split (fun hq => ?_) (fun hq => ?_)⟩
    · have hq : (i : Int) < vs.length := hq
      obtain ⟨p1, rfl, x, hx, _, h0, _⟩ := h.at (sz := 1) (fun _ => rfl) (l1.trans (l2.trans (l3.trans l5))) (j := i) ⟨by omega, hq⟩
      have hx : vs[i]? = some x := hx
      obtain ⟨l, hl⟩ : ∃ l, ls[i]? = some l := ⟨_, List.getElem?_eq_getElem (by omega)⟩
      have hr := (hv i x l hx hl).mono (l1.trans (l2.trans (l3.trans l5)))
      obtain ⟨a2, c2, rfl, _, _⟩ := hr.form
      have e := flat_step hl
      have e2 := flat_le ls (i + 1)
      rw [e, List.length_append] at e2
      obtain ⟨_, _, ef, _, _, hr4⟩ := hr
      simp only [Value.slice.injEq, true_and] at ef
      obtain ⟨rfl, _⟩ := ef
      have hnl : (l.map pairC).flatten.length = l.length * 2 := flat_len (f := pairC) (fun _ => rfl) l
      refine ⟨⟨by omega, hq⟩, p1, rfl, .slice a2 l.length c2, (h0 (by decide) _ rfl).o, ?_⟩
      refine ⟨0, _, (l.map pairC).flatten, rfl, rfl, rfl, rfl, hnl, pairs_one l, fun hm => ?_, by show (ls.take i).flatten.length + l.length ≤ _; omega, by show ((ls.take i).flatten.length + l.length) * 32 ≤ _; omega, rfl, @fun A1 d1 _ => ?_⟩
      · obtain ⟨a, ha, hrd⟩ := hr4 hm
        exact ⟨a, ha, hrd.o⟩
      have e3 : (ls.take i).flatten.length + l.length = (ls.take (i + 1)).flatten.length := by rw [e, List.length_append]
      have e4 : ((ls.take i).flatten.map pairC).flatten ++ (l.map pairC).flatten = ((ls.take (i + 1)).flatten.map pairC).flatten := by rw [e, List.map_append, List.flatten_append]
      refine ⟨rfl, _, (i64_in ((i : Int) + 1) ⟨by omega, by omega⟩).symm, ⟨i + 1, A1, d1⟩, all_sl ⟨?_, rfl, trivial⟩, rfl, ole_eq ?_, by dsimp only; omega, by dsimp only; omega⟩
      · show GV.v (.slice A1 ((ls.take i).flatten.length + l.length) d1) = GV.v (.slice A1 (ls.take (i + 1)).flatten.length d1)
        rw [e3]
      · dsimp only
        rw [e3.symm, ← e4]; rfl
    · have hq : ¬ (i : Int) < vs.length := hq
      obtain rfl : i = vs.length := by omega
      refine RetVC.freeze (fun _ hb => hb) (i := 0) rfl fun Wm lm hs0 => ?_
      refine ret_plain rfl fun W' lw => ?_
      have hs := SlRead.mono hs0 lw
      rw [e] at hs
      unfold RP
      rw [← e] at hs ⊢
      exact hs
end Go.Proofs.YtkhgmmejgikgnaaDoor
