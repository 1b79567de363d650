/- Layer 5 (query), walked: which pairs a text has; the program's Parse and the document's. -/
import Derived.Test.YtkhgmmejgikgnaaDoorQueS
import Derived.Test.YtkhgmmejgikgnaaDoorCutB
namespace Go.Proofs.YtkhgmmejgikgnaaDoor
open Go.RowKit

def pairC (p : PairS) : List Value := [strV p.name, strV p.value]
theorem sC_one (l : List UInt8) : ∀ u ∈ sC l, u.oneCell' = true := fun u hu => by rw [List.mem_singleton.1 hu]; rfl
theorem pairC_one (p : PairS) : ∀ u ∈ pairC p, u.oneCell' = true := fun u hu => by
  simp only [pairC, List.mem_cons, List.not_mem_nil, or_false] at hu
  rcases hu with rfl | rfl <;> rfl
theorem splitL_len (c : UInt8) : ∀ s : List UInt8, (splitL c s).length ≤ s.length + 1
  | [] => by simp [splitL]
  | x :: r => by
    have := splitL_len c r
    simp only [splitL]
    split
    · simp only [List.length_cons]; omega
    · split
      · rename_i p l h; rw [h] at this; simp only [List.length_cons] at this ⊢; omega
      · simp
theorem splitL_mem (c : UInt8) : ∀ s : List UInt8, ∀ p ∈ splitL c s, p.length ≤ s.length
  | [], p, h => by simp [splitL] at h; subst h; exact Nat.le_refl _
  | x :: r, p, h => by
    have ih := splitL_mem c r
    simp only [splitL] at h
    split at h
    · rcases List.mem_cons.1 h with rfl | h
      · exact Nat.zero_le _
      · have := ih p h; simp only [List.length_cons]; omega
    · split at h
      · rename_i q l hq
        rcases List.mem_cons.1 h with rfl | h
        · have := ih q (by rw [hq]; exact List.mem_cons_self ..); simp only [List.length_cons]; omega
        · have := ih p (by rw [hq]; exact List.mem_cons_of_mem _ h); simp only [List.length_cons]; omega
      · rw [List.mem_singleton.1 h]; simp
def nonE (p : List UInt8) : Bool := !p.isEmpty
theorem filt_take {l : List (List UInt8)} {i : Nat} {x : List UInt8} (h : l[i]? = some x) : (l.take (i + 1)).filter nonE = (l.take i).filter nonE ++ (if x = [] then [] else [x]) := by
  rw [List.take_add_one, h, Option.toList_some, List.filter_append]
  congr 1
  cases x <;> simp [nonE]
def strO (v : Value) (l : List (List UInt8)) : Own := ⟨v, 9, 1, l.length, (l.map sC).flatten⟩
def pairO (v : Value) (l : List PairS) : Own := ⟨v, 71, 2, l.length, (l.map pairC).flatten⟩
structure PSt where
  i : Nat
  A : Option Addr
  c : Nat
  out : List (List UInt8)
theorem filt_len (l : List (List UInt8)) (i : Nat) : ((l.take i).filter nonE).length ≤ i := by
  have h1 := List.length_filter_le nonE (l.take i)
  rw [List.length_take] at h1; omega
theorem OwnAt.nil (A : Option Addr) : OwnAt A 0 := fun h => absurd h (Nat.lt_irrefl 0)

set_option maxHeartbeats 4000000 in
theorem pieces_x (s : List UInt8) (hs : s.length ≤ 100000) (W : PW) (h : HM W) : CallsX Tryd.prog 53 ⟨[strV s]⟩ [] W fun v W' => RP sC W' v (piecesS s) := by
  have hmax : (100000000 : Nat) ≤ maxLen := by decide
  refine pureNX hmix Tryd.func53 r53 (by kernel_rfl) [nilO 9 1] rfl [strV s] rfl ?_
  refine call_v rfl (fun W' lw => split_x s (by omega) W' (h.mono lw)) (fun W3 v W4 l3 l4 hr => ?_)
  obtain ⟨a1, c1, rfl, _, _⟩ := hr.form
  have hpl := splitL_len 38 s
  have hP : piecesS s = (splitL 38 s).filter nonE := rfl
  obtain ⟨ps, hps⟩ : ∃ ps, splitL 38 s = ps := ⟨_, rfl⟩
  rw [hps] at hr hpl hP ⊢
  refine ⟨PSt, fun t => [(9, .v (.int .i64 t.i)), (3, .v (.slice t.A t.out.length t.c))], fun _ => [], fun t => [strO (.slice t.A t.out.length t.c) t.out], fun t _ => t.i ≤ ps.length ∧ t.out = (ps.take t.i).filter nonE, fun t => ps.length - t.i, ⟨0, none, 0, []⟩,
    all_sl ⟨rfl, rfl, trivial⟩, rfl, ole_refl _, ⟨Nat.zero_le _, rfl⟩, loopOK (fun _ => ⟨⟨trivial, rfl⟩, ⟨trivial, rfl⟩, trivial⟩) (fun _ => rfl) (fun _ => rfl), ?_⟩
  rintro ⟨i, A, c, out⟩ W5 l5 ⟨hi, hout⟩ fr
  dsimp only at hi hout
  have hol : out.length ≤ i := by rw [hout]; exact filt_len ps i
  refine ⟨rfl, br_split (fun hq => ?_) (fun hq => ?_)⟩
  · have hq : (i : Int) < ps.length := hq
    obtain ⟨p1, rfl, x, hx, _, hr1, _⟩ := hr.at (sz := 1) (fun _ => rfl) l5 (j := i) ⟨by omega, hq⟩
    have hx : ps[i]? = some x := hx
    have hstep := filt_take hx
    have inc := (i64_in ((i : Int) + 1) ⟨by omega, by omega⟩).symm
    refine ⟨⟨by omega, hq⟩, p1, rfl, strV x, (hr1 (by decide) _ rfl).o, br_nsplit (fun h0 => ?_) (fun h0 => ?_)⟩
    · have h0 : ¬ x = [] := h0
      rw [if_neg h0] at hstep
      refine ⟨rfl, .inl fun g W6 l6 hg => ⟨0, _, sC x, rfl, rfl, rfl, rfl, rfl, sC_one x, fun _ => ⟨_, rfl, hg.o⟩, by show out.length + 1 ≤ _; omega, by show (out.length + 1) * 16 ≤ _; omega, rfl, @fun A1 d1 _ => ?_⟩⟩
      have el : (out ++ [x]).length = out.length + 1 := by simp
      refine ⟨rfl, _, inc, ⟨i + 1, A1, d1, out ++ [x]⟩, all_sl ⟨rfl, ?_, trivial⟩, rfl, ole_eq ?_, ⟨by dsimp only; omega, by dsimp only; rw [hstep, hout]⟩, by dsimp only; omega⟩
      · dsimp only; rw [el]; rfl
      · dsimp only; unfold strO; rw [el, flat_snoc]; rfl
    · have h0 : x = [] := h0
      rw [if_pos h0, List.append_nil] at hstep
      exact ⟨rfl, _, inc, ⟨i + 1, A, c, out⟩, all_sl ⟨rfl, rfl, trivial⟩, rfl, ole_refl _, ⟨by dsimp only; omega, by dsimp only; rw [hstep, hout]⟩, by dsimp only; omega⟩
  · have hq : ¬ (i : Int) < ps.length := hq
    rw [List.take_of_length_le (by omega)] at hout
    refine RetVC.freeze (fun _ hb => hb) (i := 0) rfl fun Wm lm hs0 => ?_
    refine ret_plain rfl fun W' lw => ?_
    rw [hP, ← hout]
    exact SlRead.mono hs0 lw

/-! ## Pairs -/
def appL (a : List PairS) (o : Option (List PairS)) : Option (List PairS) := match o with | some r => some (a ++ r) | none => none
theorem appL_nil (o : Option (List PairS)) : appL [] o = o := by cases o <;> rfl
theorem pairs_step (a : List PairS) (p : List UInt8) (r : List (List UInt8)) {n v : List UInt8} (h1 : unS true (cutW 61 p).1 = some n) (h2 : unS true (cutW 61 p).2 = some v) : appL a (pairsP (p :: r)) = appL (a ++ [⟨n, v⟩]) (pairsP r) := by
  simp only [pairsP, pairP, h1, h2]
  cases pairsP r <;> simp [appL]
theorem pairs_bad (p : List UInt8) (r : List (List UInt8)) (h : unS true (cutW 61 p).1 = none ∨ unS true (cutW 61 p).2 = none) : pairsP (p :: r) = none := by
  have : pairP p = none := by
    unfold pairP
    rcases h with h | h
    · rw [h]
    · rw [h]; cases unS true (cutW 61 p).1 <;> rfl
  simp only [pairsP, this]
theorem cutW_len (c : UInt8) : ∀ s : List UInt8, (cutW c s).1.length ≤ s.length ∧ (cutW c s).2.length ≤ s.length
  | [] => ⟨Nat.le_refl _, Nat.le_refl _⟩
  | x :: r => by
    have := cutW_len c r
    simp only [cutW]
    split
    · exact ⟨Nat.zero_le _, by simp⟩
    · exact ⟨by simp only [List.length_cons]; omega, by simp only [List.length_cons]; omega⟩
theorem drop_qq {α : Type} {s : List α} {i : Nat} {c : α} (h : s[i]? = some c) : s.drop i = c :: s.drop (i + 1) := by
  have h1 := (List.getElem?_eq_some_iff.1 h).1
  rw [List.drop_eq_getElem_cons h1, (List.getElem?_eq_some_iff.1 h).2]
theorem pieces_mem {s p : List UInt8} (h : p ∈ piecesS s) : p.length ≤ s.length := splitL_mem 38 s p (List.mem_filter.1 h).1
def parE (o : Option (List PairS)) : List PairS × Nat := match o with | some l => (l, 0) | none => ([], 4)
structure QSt where
  i : Nat
  A : Option Addr
  c : Nat
  out : List PairS
/-- What Parse answers. -/
def ParR (W : PW) (v : Value) (r : List PairS × Nat) : Prop := ∃ u, v = .tuple ⟨[u, .int .i64 (r.2 : Nat)]⟩ ∧ RP pairC W u r.1
set_option maxHeartbeats 8000000 in
theorem qparse_x (s : List UInt8) (hs : s.length ≤ 100000) (W : PW) (h : HM W) : CallsX Tryd.prog 15 ⟨[strV s]⟩ [] W fun v W' => ParR W' v (parseS s) := by
  have hmax : (100000000 : Nat) ≤ maxLen := by decide
  refine pureNX hmix Tryd.func15 r15 (by kernel_rfl) [nilO 71 2] rfl [strV s] rfl ?_
  refine call_v rfl (fun W' lw => pieces_x s hs W' (h.mono lw)) (fun W3 v W4 l3 l4 hr => ?_)
  obtain ⟨a1, c1, rfl, _, _⟩ := hr.form
  have hP : parseS s = if 64 < (piecesS s).length then ([], 25) else parE (pairsP (piecesS s)) := by
    unfold parseS parE; split
    · rfl
    · cases pairsP (piecesS s) <;> rfl
  have hmem : ∀ p ∈ piecesS s, p.length ≤ 100000 := fun p hp => Nat.le_trans (pieces_mem hp) hs
  obtain ⟨ps, hps⟩ : ∃ ps, piecesS s = ps := ⟨_, rfl⟩
  rw [hps] at hr hP hmem ⊢
  have h4 := h.mono (l3.trans l4)
  refine ⟨rfl, ?_⟩
  apply br_split
  · intro h64
    have h64 : (64 : Int) < ps.length := h64
    refine ret_plain rfl fun W' _ => ?_
    rw [hP, if_pos (by omega)]
    exact ⟨_, rfl, RP.nil _ _⟩
  intro h64
  have h64 : ¬ (64 : Int) < ps.length := h64
  rw [if_neg (by omega)] at hP
  refine ⟨QSt, fun t => [(22, .v (.int .i64 t.i)), (5, .v (.slice t.A t.out.length t.c))], fun _ => [], fun t => [pairO (.slice t.A t.out.length t.c) t.out], fun t _ => t.i ≤ ps.length ∧ t.out.length ≤ t.i ∧ pairsP ps = appL t.out (pairsP (ps.drop t.i)), fun t => ps.length - t.i, ⟨0, none, 0, []⟩,
    all_sl ⟨rfl, rfl, trivial⟩, rfl, ole_refl _, ⟨Nat.zero_le _, Nat.le_refl _, by rw [appL_nil]; rfl⟩, loopOK (fun _ => ⟨⟨trivial, rfl⟩, ⟨trivial, rfl⟩, trivial⟩) (fun _ => rfl) (fun _ => rfl), ?_⟩
  rintro ⟨i, A, c, out⟩ W5 l5 ⟨hi, hol, hout⟩ fr
  dsimp only at hi hol hout
  refine ⟨rfl, br_split (fun hq => ?_) (fun hq => ?_)⟩
  · have hq : (i : Int) < ps.length := hq
    obtain ⟨p1, rfl, x, hx, _, hr1, _⟩ := hr.at (sz := 1) (fun _ => rfl) l5 (j := i) ⟨by omega, hq⟩
    have hx : ps[i]? = some x := hx
    have hxl := hmem x (List.mem_of_getElem? hx)
    obtain ⟨cl1, cl2⟩ := cutW_len 61 x
    rw [drop_qq hx] at hout
    have inc := (i64_in ((i : Int) + 1) ⟨by omega, by omega⟩).symm
    have bad : (unS true (cutW 61 x).1 = none ∨ unS true (cutW 61 x).2 = none) → parseS s = ([], 4) := fun hb => by rw [hP, hout, pairs_bad x _ hb]; rfl
    refine ⟨⟨by omega, hq⟩, p1, rfl, strV x, (hr1 (by decide) _ rfl).o, ?_⟩
    refine call_v rfl (fun W' lw => cutq_x x (by omega) W' (h4.mono (l5.trans lw))) (fun W6 v W7 l6 l7 hv => ?_)
    obtain ⟨b, rfl⟩ := hv
    obtain ⟨y, hy⟩ : ∃ y, (cutW 61 x).1 = y := ⟨_, rfl⟩
    obtain ⟨z, hz⟩ : ∃ z, (cutW 61 x).2 = z := ⟨_, rfl⟩
    have hst := fun n v h1 h2 => pairs_step out x (ps.drop (i + 1)) (n := n) (v := v) h1 h2
    rw [hy] at cl1 bad hst ⊢
    rw [hz] at cl2 bad hst ⊢
    refine ⟨_, rfl, _, rfl, _, rfl, ?_⟩
    refine call_v rfl (fun W' _ => unescape_x y true (by omega) W') (fun W8 v W9 l8 l9 hv => ?_)
    obtain ⟨o1, ho1⟩ : ∃ o, unS true y = o := ⟨_, rfl⟩
    rw [ho1] at hv bad hst
    have fin4 : parseS s = ([], 4) → ∀ W', ParR W' (.tuple ⟨[.slice none 0 0, .int .i64 4]⟩) (parseS s) := fun e W' => by rw [e]; exact ⟨_, rfl, RP.nil _ _⟩
    cases o1 with
    | none =>
      have hv : v = .tuple ⟨[strV [], .int .i64 4]⟩ := hv
      subst hv
      refine ⟨_, rfl, _, rfl, ?_⟩
      refine call_v rfl (fun W' _ => unescape_x z true (by omega) W') (fun W10 v W11 l10 l11 hv => ?_)
      obtain ⟨o2, ho2⟩ : ∃ o, unS true z = o := ⟨_, rfl⟩
      rw [ho2] at hv
      have e4 := bad (.inl rfl)
      cases o2 with
      | none =>
        have hv : v = .tuple ⟨[strV [], .int .i64 4]⟩ := hv
        subst hv
        refine ⟨_, rfl, _, rfl, rfl, ?_⟩
        exact ret_plain rfl fun W' _ => fin4 e4 W'
      | some n2 =>
        have hv : v = .tuple ⟨[strV n2, .int .i64 0]⟩ := hv
        subst hv
        refine ⟨_, rfl, _, rfl, rfl, ?_⟩
        exact ret_plain rfl fun W' _ => fin4 e4 W'
    | some n1 =>
      have hv : v = .tuple ⟨[strV n1, .int .i64 0]⟩ := hv
      subst hv
      refine ⟨_, rfl, _, rfl, ?_⟩
      refine call_v rfl (fun W' _ => unescape_x z true (by omega) W') (fun W10 v W11 l10 l11 hv => ?_)
      obtain ⟨o2, ho2⟩ : ∃ o, unS true z = o := ⟨_, rfl⟩
      rw [ho2] at hv bad hst
      cases o2 with
      | none =>
        have e4 := bad (.inr rfl)
        have hv : v = .tuple ⟨[strV [], .int .i64 4]⟩ := hv
        subst hv
        refine ⟨_, rfl, _, rfl, rfl, rfl, ?_⟩
        exact ret_plain rfl fun W' _ => fin4 e4 W'
      | some n2 =>
        have hv : v = .tuple ⟨[strV n2, .int .i64 0]⟩ := hv
        subst hv
        have hout := hout.trans (hst n1 n2 rfl rfl)
        refine ⟨_, rfl, _, rfl, rfl, rfl, ?_⟩
        refine ⟨rfl, .inl fun g W12 l12 hg => ⟨0, _, pairC ⟨n1, n2⟩, rfl, rfl, rfl, rfl, rfl, pairC_one _, fun _ => ⟨_, rfl, hg.o⟩, by show out.length + 1 ≤ _; omega, by show (out.length + 1) * 32 ≤ _; omega, rfl, @fun A1 d1 _ => ?_⟩⟩
        have el : (out ++ [(⟨n1, n2⟩ : PairS)]).length = out.length + 1 := by simp
        refine ⟨rfl, _, inc, ⟨i + 1, A1, d1, out ++ [⟨n1, n2⟩]⟩, all_sl ⟨rfl, ?_, trivial⟩, rfl, ole_eq ?_, ⟨by dsimp only; omega, by dsimp only; omega, hout⟩, by dsimp only; omega⟩
        · dsimp only; rw [el]; rfl
        · dsimp only; unfold pairO; rw [el, flat_snoc]; rfl
  · have hq : ¬ (i : Int) < ps.length := hq
    rw [List.drop_eq_nil_of_le (by omega)] at hout
    have hout : pairsP ps = some out := by rw [hout]; show some (out ++ []) = _; rw [List.append_nil]
    refine RetVC.freeze (fun _ hb => hb) (i := 0) rfl fun Wm lm hs0 => ?_
    refine ret_plain rfl fun W' lw => ?_
    rw [hP, hout]
    exact ⟨_, rfl, SlRead.mono hs0 lw⟩
end Go.Proofs.YtkhgmmejgikgnaaDoor
