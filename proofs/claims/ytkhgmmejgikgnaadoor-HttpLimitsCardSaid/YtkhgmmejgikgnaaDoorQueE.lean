/- Layer 5 (query), walked: the document's Parse. -/
import Derived.Test.YtkhgmmejgikgnaaDoorQueD
namespace Go.Proofs.YtkhgmmejgikgnaaDoor
open Go.RowKit

/-! ## Cut at each -/
structure RSt where
  i : Nat
  from_ : Nat
  A : Option Addr
  c : Nat
  out : List (List UInt8)
def CutI (c : UInt8) (s : List UInt8) (i k : Nat) (out : List (List UInt8)) : Prop :=
  (i ≤ s.length ∧ k ≤ i ∧ splitL c s = out ++ splitL c (s.drop k) ∧ c ∉ (s.drop k).take (i - k)) ∨ (i = s.length + 1 ∧ splitL c s = out)
theorem piece_more {s : List UInt8} {i k : Nat} {d : UInt8} (hk : k ≤ i) (h : s[i]? = some d) : (s.drop k).take (i + 1 - k) = (s.drop k).take (i - k) ++ [d] := by
  rw [show i + 1 - k = (i - k) + 1 by omega, List.take_add_one, List.getElem?_drop, show k + (i - k) = i by omega, h]; rfl
theorem cutI_end {c : UInt8} {s : List UInt8} {i k : Nat} {out : List (List UInt8)} (hi : i = s.length) (h : splitL c s = out ++ splitL c (s.drop k)) (hn : c ∉ (s.drop k).take (i - k)) : CutI c s (i + 1) (i + 1) (out ++ [(s.drop k).take (i - k)]) := by
  refine .inr ⟨by omega, ?_⟩
  have e : (s.drop k).take (i - k) = s.drop k := List.take_of_length_le (by rw [List.length_drop]; omega)
  rw [e] at hn ⊢
  rw [h, splitL_no hn]
theorem cutI_hit {c : UInt8} {s : List UInt8} {i k : Nat} {out : List (List UInt8)} (hk : k ≤ i) (hc : s[i]? = some c) (h : splitL c s = out ++ splitL c (s.drop k)) (hn : c ∉ (s.drop k).take (i - k)) : CutI c s (i + 1) (i + 1) (out ++ [(s.drop k).take (i - k)]) := by
  have hl := (List.getElem?_eq_some_iff.1 hc).1
  have e : s.drop k = (s.drop k).take (i - k) ++ c :: s.drop (i + 1) := by
    conv => lhs; rw [← List.take_append_drop (i - k) (s.drop k)]
    rw [List.drop_drop, show k + (i - k) = i by omega, drop_q hc]
  refine .inl ⟨by omega, Nat.le_refl _, ?_, by simp⟩
  rw [h]
  conv => lhs; rw [e]
  rw [splitL_app _ hn, List.append_assoc]; rfl
theorem cutI_miss {c d : UInt8} {s : List UInt8} {i k : Nat} {out : List (List UInt8)} (hk : k ≤ i) (hd : s[i]? = some d) (hne : ¬ d = c) (h : splitL c s = out ++ splitL c (s.drop k)) (hn : c ∉ (s.drop k).take (i - k)) : CutI c s (i + 1) k out := by
  have hl := (List.getElem?_eq_some_iff.1 hd).1
  refine .inl ⟨by omega, by omega, h, ?_⟩
  rw [piece_more hk hd]
  intro hm
  rcases List.mem_append.1 hm with hm | hm
  · exact hn hm
  · exact hne (List.mem_singleton.1 hm).symm
set_option maxHeartbeats 4000000 in
theorem refcut_x (s : List UInt8) (c : UInt8) (hs : s.length ≤ 100000) (W : PW) : CallsX Tryd.prog 55 ⟨[strV s, .int .u8 c.toNat]⟩ [] W fun v W' => RP sC W' v (splitL c s) := by
  have hmax : (100000000 : Nat) ≤ maxLen := by decide
  refine pureNX hmix Tryd.func55 r55 (by kernel_rfl) [nilO 9 1] rfl [strV s, .int .u8 c.toNat] rfl ?_
  refine ⟨RSt, fun t => [(5, .v (.slice t.A t.out.length t.c)), (6, .v (.int .i64 t.from_)), (7, .v (.int .i64 t.i))], fun _ => [], fun t => [strO (.slice t.A t.out.length t.c) t.out], fun t _ => t.out.length ≤ t.i ∧ CutI c s t.i t.from_ t.out, fun t => s.length + 1 - t.i, ⟨0, 0, none, 0, []⟩,
    all_sl ⟨rfl, rfl, rfl, trivial⟩, rfl, ole_refl _, ⟨Nat.le_refl _, .inl ⟨Nat.zero_le _, Nat.le_refl _, rfl, by simp⟩⟩, loopOK (fun _ => ⟨⟨trivial, rfl⟩, ⟨trivial, rfl⟩, ⟨trivial, rfl⟩, trivial⟩) (fun _ => rfl) (fun _ => rfl), ?_⟩
  rintro ⟨i, k, A, c1, out⟩ W5 l5 ⟨hol, hI⟩ fr
  dsimp only at hol hI
  refine ⟨rfl, br_split (fun hq => ?_) (fun hq => ?_)⟩
  · have hq : (i : Int) ≤ s.length := hq
    obtain ⟨hi, hk, h1, hn⟩ : i ≤ s.length ∧ k ≤ i ∧ splitL c s = out ++ splitL c (s.drop k) ∧ c ∉ (s.drop k).take (i - k) := hI.resolve_right fun h => by omega
    have inc : ((i + 1 : Nat) : Int) = IntKind.i64.wrap ((i : Int) + 1) := by rw [i64_in _ ⟨by omega, by omega⟩]; omega
    have el : (out ++ [(s.drop k).take (i - k)]).length = out.length + 1 := by simp
    refine ⟨rfl, ?_⟩
    apply br_split
    · intro he
      have he : (i : Int) = s.length := he
      have hI' := cutI_end (show i = s.length by omega) h1 hn
      refine ⟨⟨by show (0 : Int) ≤ (k : Int); omega, by show (k : Int) ≤ (i : Int); omega, by show (i : Int) ≤ (s.length : Int); omega⟩, rfl, .inl fun g W6 l6 hg => ⟨0, _, sC ((s.drop k).take (i - k)), rfl, rfl, rfl, rfl, rfl, sC_one _, fun _ => ⟨_, rfl, hg.o⟩, by show out.length + 1 ≤ _; omega, by show (out.length + 1) * 16 ≤ _; omega, rfl, @fun A1 d1 _ => ?_⟩⟩
      refine ⟨rfl, _, inc, rfl, _, inc, ⟨i + 1, i + 1, A1, d1, out ++ [(s.drop k).take (i - k)]⟩, all_sl ⟨?_, rfl, rfl, trivial⟩, rfl, ole_eq ?_, ⟨by dsimp only; omega, hI'⟩, by dsimp only; omega⟩
      · dsimp only; rw [el]; rfl
      · dsimp only; unfold strO; rw [el, flat_snoc]; rfl
    · intro he
      have he : ¬ (i : Int) = s.length := he
      obtain ⟨d, hd⟩ := at_q (s := s) (i := i) (by omega)
      have hb : byteAt s (i : Int).toNat = d.toNat := byteAt_get hd
      refine ⟨⟨by omega, by omega⟩, rfl, br_split (fun hc => ?_) (fun hc => ?_)⟩
      · have hc : byteAt s (i : Int).toNat = c.toNat := hc
        obtain rfl : d = c := byte_eq (by omega)
        have hI' := cutI_hit hk hd h1 hn
        refine ⟨⟨by show (0 : Int) ≤ (k : Int); omega, by show (k : Int) ≤ (i : Int); omega, by show (i : Int) ≤ (s.length : Int); omega⟩, rfl, .inl fun g W6 l6 hg => ⟨0, _, sC ((s.drop k).take (i - k)), rfl, rfl, rfl, rfl, rfl, sC_one _, fun _ => ⟨_, rfl, hg.o⟩, by show out.length + 1 ≤ _; omega, by show (out.length + 1) * 16 ≤ _; omega, rfl, @fun A1 d1 _ => ?_⟩⟩
        refine ⟨rfl, _, inc, rfl, _, inc, ⟨i + 1, i + 1, A1, d1, out ++ [(s.drop k).take (i - k)]⟩, all_sl ⟨?_, rfl, rfl, trivial⟩, rfl, ole_eq ?_, ⟨by dsimp only; omega, hI'⟩, by dsimp only; omega⟩
        · dsimp only; rw [el]; rfl
        · dsimp only; unfold strO; rw [el, flat_snoc]; rfl
      · have hc : ¬ byteAt s (i : Int).toNat = c.toNat := hc
        have hI' := cutI_miss hk hd (fun e => hc (by rw [hb, e])) h1 hn
        exact ⟨rfl, _, inc, ⟨i + 1, k, A, c1, out⟩, all_sl ⟨rfl, rfl, rfl, trivial⟩, rfl, ole_refl _, ⟨by dsimp only; omega, hI'⟩, by dsimp only; omega⟩
  · have hq : ¬ (i : Int) ≤ s.length := hq
    have he : splitL c s = out := (hI.resolve_left fun h => by have := h.1; omega).2
    refine RetVC.freeze (fun _ hb => hb) (i := 0) rfl fun Wm lm hs0 => ?_
    refine ret_plain rfl fun W' lw => ?_
    rw [he]
    exact SlRead.mono hs0 lw

/-! ## Parse -/
theorem cutW_at {c : UInt8} {p : List UInt8} {n : Nat} (_ : n ≤ p.length) (h : c ∉ p.take n) : (n = p.length → cutW c p = (p.take n, [])) ∧ (p[n]? = some c → cutW c p = (p.take n, p.drop (n + 1))) := by
  refine ⟨fun e => ?_, fun e => ?_⟩
  · rw [List.take_of_length_le (by omega)] at h ⊢
    exact cutW_no h
  · have := cutW_app (p.drop (n + 1)) h
    rw [← drop_q e, List.take_append_drop] at this
    exact this
/-- A cell of a list of texts that is owned. -/
theorem own_str {S : GS} {i : Nat} {A : Option Addr} {n c j : Nat} {l : List (List UInt8)} {x : List UInt8} {g : Nat} (hA : A = some ⟨g, 0, none⟩) (hn : n = l.length) (hi : S.O[i]? = some (strO (.slice A n c) l)) (hx : l[j]? = some x) : RdO S ((⟨g, 0, none⟩ : Addr).add (j * 1)) (strV x) := by
  subst hA hn
  refine .inr ⟨i, _, ⟨g, 0, none⟩, l.length, c, j * 1, hi, rfl, rfl, ?_⟩
  exact flat_get (sz := 1) (fun _ => rfl) (off := 0) hx (by decide)
structure TSt where
  i : Nat
  A : Option Addr
  c : Nat
  out : List PairS
set_option maxHeartbeats 8000000 in
theorem refparse_x (s : List UInt8) (hs : s.length ≤ 100000) (W : PW) : CallsX Tryd.prog 16 ⟨[strV s]⟩ [] W fun v W' => ParR W' v (parseS s) := by
  have hmax : (100000000 : Nat) ≤ maxLen := by decide
  refine pureNX hmix Tryd.func16 r16 (by kernel_rfl) [nilO 9 1] rfl [strV s] rfl ?_
  have hP : parseS s = if 64 < (piecesS s).length then ([], 25) else parE (pairsP (piecesS s)) := by
    unfold parseS parE; split
    · rfl
    · cases pairsP (piecesS s) <;> rfl
  have hmem : ∀ p ∈ piecesS s, p.length ≤ 100000 := fun p hp => Nat.le_trans (pieces_mem hp) hs
  refine call_v rfl (fun W' lw => refcut_x s 38 hs W') (fun W3 v W4 l3 l4 hr => ?_)
  obtain ⟨a1, c1, rfl, _, _⟩ := hr.form
  have hpl := splitL_len 38 s
  have hF : piecesS s = (splitL 38 s).filter nonE := rfl
  obtain ⟨ps, hps⟩ : ∃ ps, splitL 38 s = ps := ⟨_, rfl⟩
  rw [hps] at hr hpl hF ⊢
  refine ⟨PSt, fun t => [(6, .v (.int .i64 t.i)), (4, .v (.slice t.A t.out.length t.c))], fun _ => [], fun t => [strO (.slice t.A t.out.length t.c) t.out], fun t _ => t.i ≤ ps.length ∧ t.out = (ps.take t.i).filter nonE ∧ OwnAt t.A t.out.length, fun t => ps.length - t.i, ⟨0, none, 0, []⟩,
    all_sl ⟨rfl, rfl, trivial⟩, rfl, ole_refl _, ⟨Nat.zero_le _, rfl, OwnAt.nil _⟩, loopOK (fun _ => ⟨⟨trivial, rfl⟩, ⟨trivial, rfl⟩, trivial⟩) (fun _ => rfl) (fun _ => rfl), ?_⟩
  rintro ⟨i, A, c, out⟩ W5 l5 ⟨hi, hout, hAt⟩ fr
  dsimp only at hi hout hAt
  have hol : out.length ≤ i := by rw [hout]; exact filt_len ps i
  refine ⟨rfl, br_split (fun hq => ?_) (fun hq => ?_)⟩
  · have hq : (i : Int) < ps.length := hq
    obtain ⟨p1, rfl, x, hx, _, hr1, _⟩ := hr.at (sz := 1) (fun _ => rfl) l5 (j := i) ⟨by omega, hq⟩
    have hx : ps[i]? = some x := hx
    have hstep := filt_take hx
    have inc := (i64_in ((i : Int) + 1) ⟨by omega, by omega⟩).symm
    refine ⟨⟨by omega, hq⟩, p1, rfl, strV x, (hr1 (by decide) _ rfl).o, br_nsplit (fun h0 => ?_) (fun h0 => ?_)⟩
    · have h0 : ¬ x = [] := h0
      rw [if_neg h0] at hstep
      refine ⟨⟨by omega, hq⟩, p1, rfl, strV x, (hr1 (by decide) _ rfl).o, rfl, .inl fun g W6 l6 hg => ⟨0, _, sC x, rfl, rfl, rfl, rfl, rfl, sC_one x, fun _ => ⟨_, rfl, hg.o⟩, by show out.length + 1 ≤ _; omega, by show (out.length + 1) * 16 ≤ _; omega, rfl, @fun A1 d1 hA1 => ?_⟩⟩
      have el : (out ++ [x]).length = out.length + 1 := by simp
      refine ⟨rfl, _, inc, ⟨i + 1, A1, d1, out ++ [x]⟩, all_sl ⟨rfl, ?_, trivial⟩, rfl, ole_eq ?_, ⟨by dsimp only; omega, by dsimp only; rw [hstep, hout], by dsimp only; rw [el]; exact hA1⟩, by dsimp only; omega⟩
      · dsimp only; rw [el]; rfl
      · dsimp only; unfold strO; rw [el, flat_snoc]; rfl
    · have h0 : x = [] := h0
      rw [if_pos h0, List.append_nil] at hstep
      exact ⟨rfl, _, inc, ⟨i + 1, A, c, out⟩, all_sl ⟨rfl, rfl, trivial⟩, rfl, ole_refl _, ⟨by dsimp only; omega, by dsimp only; rw [hstep, hout], hAt⟩, by dsimp only; omega⟩
  have hq : ¬ (i : Int) < ps.length := hq
  rw [List.take_of_length_le (by omega), ← hF] at hout
  rw [← hout] at hP hmem
  refine ⟨rfl, ?_⟩
  apply br_split
  · intro h64
    have h64 : (64 : Int) < out.length := h64
    refine ret_plain rfl fun W' _ => ?_
    rw [hP, if_pos (by omega)]
    exact ⟨_, rfl, RP.nil _ _⟩
  intro h64
  have h64 : ¬ (64 : Int) < out.length := h64
  rw [if_neg (by omega)] at hP
  refine ⟨TSt, fun t => [(8, .v (.int .i64 t.i)), (7, .v (.slice t.A t.out.length t.c))], fun _ => [], fun t => [strO (.slice A out.length c) out, pairO (.slice t.A t.out.length t.c) t.out], fun t _ => t.i ≤ out.length ∧ t.out.length ≤ t.i ∧ pairsP out = appL t.out (pairsP (out.drop t.i)), fun t => out.length - t.i, ⟨0, none, 0, []⟩,
    all_sl ⟨rfl, rfl, trivial⟩, rfl, ?_, ⟨Nat.zero_le _, Nat.le_refl _, by rw [appL_nil]; rfl⟩, loopOK (fun _ => ⟨⟨trivial, rfl⟩, ⟨trivial, rfl⟩, trivial⟩) (fun _ => rfl) (fun _ => rfl), ?_⟩
  · have e : OLe [strO (.slice A out.length c) out] [strO (.slice A out.length c) out, nilO 71 2] := by
      unfold OLe
      have : [strO (.slice A out.length c) out, nilO 71 2].filter (fun o => !o.isNil) = [strO (.slice A out.length c) out].filter (fun o => !o.isNil) := by
        simp [List.filter_cons, nilO, Own.isNil]
      rw [this]; exact List.filter_sublist
    exact e
  rintro ⟨k, B, e, acc⟩ W6 l6 ⟨hk, hal, hacc⟩ fr2
  dsimp only at hk hal hacc
  refine vc_cut (fun f' S' => S' = ⟨[], [strO (.slice A out.length c) out, pairO (.slice B acc.length e) acc], W6⟩ ∧ k < out.length ∧ AllSl f' [(4, .v (.slice A out.length c)), (7, .v (.slice B acc.length e)), (8, .v (.int .i64 k))]) ?_ ?_
  · refine ⟨rfl, br_split (fun hq => ?_) (fun hq => ?_)⟩
    · have hq : (k : Int) < out.length := hq
      exact ⟨rfl, by omega, ⟨rfl, rfl, rfl, trivial⟩⟩
    · have hq : ¬ (k : Int) < out.length := hq
      rw [List.drop_eq_nil_of_le (by omega)] at hacc
      have hacc : pairsP out = some acc := by rw [hacc]; show some (acc ++ []) = _; rw [List.append_nil]
      refine RetVC.freeze (fun _ hb => hb) (i := 1) rfl fun Wm lm hs0 => ?_
      refine ret_plain rfl fun W' lw => ?_
      rw [hP, hacc]
      exact ⟨_, rfl, SlRead.mono hs0 lw⟩
  rintro f3 S3 ⟨rfl, hko, hfr3⟩
  obtain ⟨x, hx⟩ : ∃ x, out[k]? = some x := ⟨_, List.getElem?_eq_getElem hko⟩
  have hxl := hmem x (List.mem_of_getElem? hx)
  obtain ⟨g, rfl⟩ := hAt (by omega)
  have hko' : (k : Int) < out.length := by omega
  rw [drop_qq hx] at hacc
  have inc := (i64_in ((k : Int) + 1) ⟨by omega, by omega⟩).symm
  obtain ⟨cl1, cl2⟩ := cutW_len 61 x
  have bad : (unS true (cutW 61 x).1 = none ∨ unS true (cutW 61 x).2 = none) → parseS s = ([], 4) := fun hb => by rw [hP, hacc, pairs_bad x _ hb]; rfl
  have hst := fun n v h1 h2 => pairs_step acc x (out.drop (k + 1)) (n := n) (v := v) h1 h2
  refine vc_cut (fun f' S' => ∃ (B' : Option Addr) (e' : Nat) (acc' : List PairS) (W7 : PW), S' = ⟨[], [strO (.slice (some ⟨g, 0, none⟩) out.length c) out, pairO (.slice B' acc'.length e') acc'], W7⟩ ∧ acc'.length = acc.length + 1 ∧ pairsP out = appL acc' (pairsP (out.drop (k + 1))) ∧ AllSl f' [(7, .v (.slice B' acc'.length e')), (8, .v (.int .i64 k))]) ?_ ?_
  rotate_left
  · rintro f4 S4 ⟨B', e', acc', W7, rfl, hl', hacc', hfr4⟩
    refine vc_at _ hfr4 ?_
    exact ⟨rfl, _, inc, ⟨k + 1, B', e', acc'⟩, all_sl ⟨rfl, rfl, trivial⟩, rfl, ole_refl _, ⟨by dsimp only; omega, by dsimp only; omega, hacc'⟩, by dsimp only; omega⟩
  refine vc_block ?_
  refine vc_at _ hfr3 ?_
  refine vc_assoc (vc_assoc (vc_assoc (vc_cut (fun f' S' => ∃ (n : Nat), S' = ⟨[], [strO (.slice (some ⟨g, 0, none⟩) out.length c) out, pairO (.slice B acc.length e) acc], W6⟩ ∧ n ≤ x.length ∧ x.take n = (cutW 61 x).1 ∧ AllSl f' [(4, .v (.slice (some ⟨g, 0, none⟩) out.length c)), (7, .v (.slice B acc.length e)), (8, .v (.int .i64 k)), (9, .v (.int .i64 n)), (10, .v (strV (cutW 61 x).2))]) ?_ ?_)))
  · refine ⟨Nat, fun n => [(9, .v (.int .i64 n))], fun _ => [], fun _ => [strO (.slice (some ⟨g, 0, none⟩) out.length c) out, pairO (.slice B acc.length e) acc], fun n W' => W' = W6 ∧ n ≤ x.length ∧ 61 ∉ x.take n, fun n => x.length - n, 0,
      all_sl ⟨rfl, trivial⟩, rfl, ole_refl _, ⟨rfl, Nat.zero_le _, by simp⟩, loopOK (fun _ => ⟨⟨trivial, rfl⟩, trivial⟩) (fun _ => rfl) (fun _ => rfl), ?_⟩
    rintro n W7 l7 ⟨rfl, hn, hno⟩ fr5
    obtain ⟨cw1, cw2⟩ := cutW_at hn hno
    refine ⟨⟨by omega, hko'⟩, _, rfl, strV x, own_str (i := 0) rfl rfl rfl hx, rfl, ?_⟩
    apply br_split
    · intro hq
      have hq : (n : Int) < x.length := hq
      obtain ⟨d, hd⟩ := at_q (s := x) (i := n) (by omega)
      have hb : byteAt x (n : Int).toNat = d.toNat := byteAt_get hd
      refine ⟨⟨by omega, hko'⟩, _, rfl, strV x, own_str (i := 0) rfl rfl rfl hx, ⟨by omega, hq⟩, rfl, br_nsplit (fun h61 => ?_) (fun h61 => ?_)⟩
      · have h61 : ¬ byteAt x (n : Int).toNat = 61 := h61
        refine ⟨rfl, _, (i64_in ((n : Int) + 1) ⟨by omega, by omega⟩).symm, n + 1, all_sl ⟨rfl, trivial⟩, rfl, ole_refl _, ⟨rfl, by omega, ?_⟩, by dsimp only; omega⟩
        rw [take_snoc hd]
        intro hm
        rcases List.mem_append.1 hm with hm | hm
        · exact hno hm
        · have := List.mem_singleton.1 hm
          apply h61
          rw [hb, ← this]; rfl
      · have h61 : byteAt x (n : Int).toNat = 61 := h61
        obtain rfl : d = 61 := byte_eq (by show d.toNat = 61; omega)
        have cw := cw2 hd
        refine ⟨⟨by omega, hko'⟩, _, rfl, strV x, own_str (i := 0) rfl rfl rfl hx, rfl, ?_⟩
        refine br_yes hq ?_
        have w1 : ((n + 1 : Nat) : Int) = IntKind.i64.wrap ((n : Int) + 1) := by rw [i64_in _ ⟨by omega, by omega⟩]; omega
        refine ⟨⟨by omega, hko'⟩, _, rfl, strV x, own_str (i := 0) rfl rfl rfl hx, rfl, _, w1, ⟨by omega, by show ((n + 1 : Nat) : Int) ≤ x.length; omega, Int.le_refl _⟩, n, rfl, hn, by rw [cw], ⟨rfl, rfl, rfl, rfl, ?_, trivial⟩⟩
        rw [cw]
        show GV.v (strV ((x.drop (((n + 1 : Nat) : Int)).toNat).take (((x.length : Nat) : Int).toNat - (((n + 1 : Nat) : Int)).toNat))) = _
        rw [List.take_of_length_le (by rw [List.length_drop]; omega)]; rfl
    · intro hq
      have hq : ¬ (n : Int) < x.length := hq
      have cw := cw1 (by omega)
      refine ⟨⟨by omega, hko'⟩, _, rfl, strV x, own_str (i := 0) rfl rfl rfl hx, rfl, ?_⟩
      refine br_no hq ?_
      exact ⟨n, rfl, hn, by rw [cw], ⟨rfl, rfl, rfl, rfl, by rw [cw]; rfl, trivial⟩⟩
  rintro f5 S5 ⟨n, rfl, hn, hy, hfr5⟩
  refine vc_at _ hfr5 ?_
  have ey : (x.drop (0 : Int).toNat).take ((n : Int).toNat - (0 : Int).toNat) = (cutW 61 x).1 := by rw [← hy]; rfl
  obtain ⟨y, hy1⟩ : ∃ y, (cutW 61 x).1 = y := ⟨_, rfl⟩
  obtain ⟨z, hz⟩ : ∃ z, (cutW 61 x).2 = z := ⟨_, rfl⟩
  rw [hy1] at cl1 bad hst ey
  rw [hz] at cl2 bad hst ⊢
  have hcall : ∀ W', CallsX Tryd.prog 23 ⟨[strV ((x.drop (0 : Int).toNat).take ((n : Int).toNat - (0 : Int).toNat)), .bool true]⟩ [] W' fun v _ => v = .tuple ⟨[strV (unV (unS true y)).1, .int .i64 (unV (unS true y)).2]⟩ := fun W' => by rw [ey]; exact refunescape_x y true (by omega) W'
  refine ⟨⟨by omega, hko'⟩, _, rfl, strV x, own_str (i := 0) rfl rfl rfl hx, ⟨by decide, by omega, by show (n : Int) ≤ x.length; omega⟩, ?_⟩
  refine call_v rfl (fun W' _ => hcall W') (fun W8 v W9 l8 l9 hv => ?_)
  obtain ⟨o1, ho1⟩ : ∃ o, unS true y = o := ⟨_, rfl⟩
  rw [ho1] at hv bad hst
  have fin4 : parseS s = ([], 4) → ∀ W', ParR W' (.tuple ⟨[.slice none 0 0, .int .i64 4]⟩) (parseS s) := fun e W' => by rw [e]; exact ⟨_, rfl, RP.nil _ _⟩
  cases o1 with
  | none =>
    have hv : v = .tuple ⟨[strV [], .int .i64 4]⟩ := hv
    subst hv
    refine ⟨_, rfl, _, rfl, ?_⟩
    refine call_v rfl (fun W' _ => refunescape_x z true (by omega) W') (fun W10 v W11 l10 l11 hv => ?_)
    obtain ⟨o2, ho2⟩ : ∃ o, unS true z = o := ⟨_, rfl⟩
    rw [ho2] at hv
    have e4 := bad (.inl rfl)
    cases o2 with
    | none =>
      have hv : v = .tuple ⟨[strV [], .int .i64 4]⟩ := hv
      subst hv
      refine ⟨_, rfl, _, rfl, rfl, ?_⟩
      exact ret_plain rfl fun W' _ => fin4 e4 W'
    | some n2 =>
      have hv : v = .tuple ⟨[strV n2, .int .i64 0]⟩ := hv
      subst hv
      refine ⟨_, rfl, _, rfl, rfl, ?_⟩
      exact ret_plain rfl fun W' _ => fin4 e4 W'
  | some n1 =>
    have hv : v = .tuple ⟨[strV n1, .int .i64 0]⟩ := hv
    subst hv
    refine ⟨_, rfl, _, rfl, ?_⟩
    refine call_v rfl (fun W' _ => refunescape_x z true (by omega) W') (fun W10 v W11 l10 l11 hv => ?_)
    obtain ⟨o2, ho2⟩ : ∃ o, unS true z = o := ⟨_, rfl⟩
    rw [ho2] at hv bad hst
    cases o2 with
    | none =>
      have e4 := bad (.inr rfl)
      have hv : v = .tuple ⟨[strV [], .int .i64 4]⟩ := hv
      subst hv
      refine ⟨_, rfl, _, rfl, rfl, rfl, ?_⟩
      exact ret_plain rfl fun W' _ => fin4 e4 W'
    | some n2 =>
      have hv : v = .tuple ⟨[strV n2, .int .i64 0]⟩ := hv
      subst hv
      have hacc := hacc.trans (hst n1 n2 rfl rfl)
      have el : (acc ++ [(⟨n1, n2⟩ : PairS)]).length = acc.length + 1 := by simp
      refine ⟨_, rfl, _, rfl, rfl, rfl, rfl, .inl fun g W12 l12 hg => ⟨1, _, pairC ⟨n1, n2⟩, rfl, rfl, rfl, rfl, rfl, pairC_one _, fun _ => ⟨_, rfl, hg.o⟩, by show acc.length + 1 ≤ _; omega, by show (acc.length + 1) * 32 ≤ _; omega, rfl, @fun A1 d1 _ => ?_⟩⟩
      refine ⟨A1, d1, acc ++ [⟨n1, n2⟩], W12, ?_, el, hacc, ⟨?_, rfl, trivial⟩⟩
      · unfold pairO; rw [el, flat_snoc]; rfl
      · rw [el]; rfl
end Go.Proofs.YtkhgmmejgikgnaaDoor
