/- Requests, walked: the first line. -/
import Derived.Test.YtkhgmmejgikgnaaDoorHttC
namespace Go.Proofs.YtkhgmmejgikgnaaDoor
open Go.RowKit

theorem first_of {line m t v : List UInt8} (h : splitL 32 line = [m, t, v]) : firstS line =
    if v = verS ∧ allB 16 greatB m = true ∧ allB 2048 seenB t = true ∧ t.head? = some 47 then
      match unS false (cutW 63 t).1, parseS (cutW 63 t).2 with
      | some p, (q, 0) => some ⟨m, p, q⟩
      | _, _ => none
    else none := by unfold firstS; rw [h]; rfl
theorem unV_cases {o : Option (List UInt8)} {p : List UInt8} {e : Int} (h : unV o = (p, e)) : (o = some p ∧ e = 0) ∨ (o = none ∧ e = 4) := by
  cases o with
  | none => injection h with h1 h2; exact .inr ⟨rfl, h2.symm⟩
  | some l => injection h with h1 h2; exact .inl ⟨by rw [h1], h2.symm⟩
theorem first_no {line : List UInt8} (h : ¬ (splitL 32 line).length = 3) : firstS line = none := by
  unfold firstS
  split
  · rename_i e; rw [e] at h; exact absurd rfl h
  · rfl
def FstR (W : PW) (g : Nat) (h b : Value) (v : Value) (r : Option FirstR) : Prop :=
  match r with
  | some f => v = .bool true ∧ ∃ q, RP pairC W q f.q ∧ OwnB W g (reqC f.m f.p q h b)
  | none => v = .bool false ∧ ∃ m p q, OwnB W g (reqC m p q h b)
theorem three_of {l : List (List UInt8)} (h : l.length = 3) : ∃ m t v, l = [m, t, v] := by
  match l, h with
  | [m, t, v], _ => exact ⟨m, t, v, rfl⟩
theorem cutW_parts (c : UInt8) (s : List UInt8) : (cutW c s).1.length ≤ s.length ∧ (cutW c s).2.length ≤ s.length := cutW_len c s
set_option maxHeartbeats 8000000 in
theorem first_x (line : List UInt8) (hl : line.length ≤ 90000) (m0 p0 : List UInt8) (q0 h b : Value) (g : Nat) (W : PW) (hM : HM W) (hown : OwnB W g (reqC m0 p0 q0 h b)) :
    CallsX Tryd.prog 59 ⟨[.pointer (some ⟨g, 0, none⟩), strV line]⟩ [g] W fun v W' => FstR W' g h b v (firstS line) := by
  refine methX hmix Tryd.func59 r59 (by kernel_rfl) hown [strV line] rfl ?_
  refine call_v rfl (fun W' lw => splitg_x line [32] (by decide) (by omega) W' (hM.mono lw)) (fun W1 u W2 l1 l2 hu => ?_)
  rw [split_one] at hu
  have hmem := splitL_mem 32 line
  obtain ⟨ls, hls⟩ : ∃ ls, splitL 32 line = ls := ⟨_, rfl⟩
  have bad : firstS line = none → ∀ W', OwnB W' g (reqC m0 p0 q0 h b) → FstR W' g h b (.bool false) (firstS line) := fun hf W' ho => by rw [hf]; exact ⟨rfl, _, _, _, ho⟩
  have lA := l1.trans l2
  rw [hls] at hu hmem
  obtain ⟨a1, c1, rfl, _, _⟩ := hu.form
  refine ⟨rfl, br_nsplit (fun h3 => ?_) (fun h3 => ?_)⟩
  · have h3 : ¬ (ls.length : Int) = 3 := h3
    have hf := first_no (line := line) (by rw [hls]; omega)
    exact ret_m1 rfl rfl rfl rfl fun W' _ ho => bad hf W' ho
  have h3 : (ls.length : Int) = 3 := h3
  obtain ⟨m, t, v, rfl⟩ := three_of (l := ls) (by omega)
  have hml := hmem m (by simp)
  have htl := hmem t (by simp)
  have hvl := hmem v (by simp)
  have hF := first_of hls
  have at_ : ∀ (j : Nat) (x : List UInt8) (W' : PW), W2.Le W' → [m, t, v][j]? = some x → ∃ p, a1 = some p ∧ Rd W' (p.add (j * 1)) (strV x) := fun j x W' lw hx => by
    obtain ⟨p1, e, y, hy, _, hr1, _⟩ := hu.at (sz := 1) (fun _ => rfl) lw (j := (j : Int)) ⟨by omega, by have := (List.getElem?_eq_some_iff.1 hx).1; omega⟩
    obtain rfl : x = y := Option.some.inj (hx.symm.trans hy)
    exact ⟨p1, e, hr1 (by decide) _ rfl⟩
  obtain ⟨pa, rfl, _⟩ := at_ 0 m W2 (PW.Le.refl _) rfl
  have rd : ∀ (j : Nat) (x : List UInt8) (W' : PW), W2.Le W' → [m, t, v][j]? = some x → Rd W' (pa.add (j * 1)) (strV x) := fun j x W' lw hx => by
    obtain ⟨p1, e, hr⟩ := at_ j x W' lw hx
    obtain rfl := Option.some.inj e
    exact hr
  have b3 : ∀ j : Nat, j < 3 → (0 : Int) ≤ (j : Int) ∧ (j : Int) < (([m, t, v].length : Nat) : Int) := fun j hj => ⟨by omega, by show (j : Int) < ((3 : Nat) : Int); omega⟩
  refine ⟨b3 2 (by decide), pa, rfl, strV v, (rd 2 v W2 (PW.Le.refl _) rfl).o, br_nsplit (fun hver => ?_) (fun hver => ?_)⟩
  · have hver : ¬ v = verS := hver
    have hf : firstS line = none := by rw [hF, if_neg (fun e => hver e.1)]
    exact ret_m1 rfl rfl rfl rfl fun W' _ ho => bad hf W' ho
  have hver : v = verS := hver
  refine ⟨b3 0 (by decide), pa, rfl, strV m, (rd 0 m W2 (PW.Le.refl _) rfl).o, ?_⟩
  refine call_v rfl (fun W' _ => all_x m 16 100 greatB (fun c W' => great_x c W') (by omega) W') (fun W3 x W4 l3 l4 hx => ?_)
  have lB := l3.trans l4
  obtain ⟨bg, hbg, rfl⟩ : ∃ y, allB 16 greatB m = y ∧ x = .bool y := ⟨_, rfl, hx⟩
  refine br_nsplit' (fun e => ?_) (fun e => ?_)
  · subst e
    have hf : firstS line = none := by rw [hF, if_neg (fun e => by rw [hbg] at e; cases e.2.1)]
    exact ret_m1 rfl rfl rfl rfl fun W' _ ho => bad hf W' ho
  subst e
  refine ⟨b3 1 (by decide), pa, rfl, strV t, (rd 1 t W4 lB rfl).o, ?_⟩
  refine call_v rfl (fun W' _ => all_x t 2048 101 seenB (fun c W' => seen_x c W') (by omega) W') (fun W5 x W6 l5 l6 hx => ?_)
  have lC := lB.trans (l5.trans l6)
  obtain ⟨bs, hbs, rfl⟩ : ∃ y, allB 2048 seenB t = y ∧ x = .bool y := ⟨_, rfl, hx⟩
  refine br_nsplit' (fun e => ?_) (fun e => ?_)
  · subst e
    have hf : firstS line = none := by rw [hF, if_neg (fun e => by rw [hbs] at e; cases e.2.2.1)]
    exact ret_m1 rfl rfl rfl rfl fun W' _ ho => bad hf W' ho
  subst e
  have ht0 : 1 ≤ t.length := by
    unfold allB at hbs
    simp only [Bool.and_eq_true, decide_eq_true_eq] at hbs
    exact hbs.2.1
  obtain ⟨c0, hc0⟩ := at_q (s := t) (i := 0) (by omega)
  have hbc : byteAt t (0 : Int).toNat = c0.toNat := byteAt_get hc0
  have hhd : t.head? = some c0 := by rw [List.head?_eq_getElem?]; exact hc0
  refine ⟨b3 1 (by decide), pa, rfl, strV t, (rd 1 t W6 lC rfl).o, ⟨by decide, by show (0 : Int) < (t.length : Int); omega⟩, rfl, br_nsplit (fun e47 => ?_) (fun e47 => ?_)⟩
  · have e47 : ¬ byteAt t (0 : Int).toNat = 47 := e47
    have hf : firstS line = none := by rw [hF, if_neg (fun e => e47 (by rw [hbc]; have := e.2.2.2; rw [hhd] at this; rw [Option.some.inj this]; rfl))]
    exact ret_m1 rfl rfl rfl rfl fun W' _ ho => bad hf W' ho
  have e47 : byteAt t (0 : Int).toNat = 47 := e47
  have hc47 : c0 = 47 := byte_eq (by show c0.toNat = 47; omega)
  rw [if_pos ⟨hver, hbg, hbs, by rw [hhd, hc47]⟩] at hF
  refine ⟨b3 1 (by decide), pa, rfl, strV t, (rd 1 t W6 lC rfl).o, ?_⟩
  have lD := lA.trans lC
  refine call_v rfl (fun W' lw => cutg_x t 63 (by omega) W' (hM.mono (lD.trans lw))) (fun W7 x W8 l7 l8 hx => ?_)
  subst hx
  have lE := lD.trans (l7.trans l8)
  have hcl := cutW_len 63 t
  obtain ⟨pt, hpt⟩ : ∃ y, (cutW 63 t).1 = y := ⟨_, rfl⟩
  obtain ⟨rt, hrt⟩ : ∃ y, (cutW 63 t).2 = y := ⟨_, rfl⟩
  rw [hpt, hrt] at hF hcl
  refine ⟨_, rfl, _, rfl, _, rfl, ?_⟩
  refine call_v rfl (fun W' _ => unescape_x (cutW 63 t).1 false (by rw [hpt]; omega) W') (fun W9 x W10 l9 l10 hx => ?_)
  rw [hpt] at hx
  have lF := lE.trans (l9.trans l10)
  obtain ⟨r1, hr1⟩ : ∃ y, unV (unS false pt) = y := ⟨_, rfl⟩
  rw [hr1] at hx
  obtain ⟨pth, e1⟩ := r1
  have hx : x = .tuple ⟨[strV pth, .int .i64 e1]⟩ := hx
  subst hx
  refine ⟨_, rfl, _, rfl, ?_⟩
  refine call_v rfl (fun W' lw => qparse_x (cutW 63 t).2 (by rw [hrt]; omega) W' (hM.mono (lF.trans lw))) (fun W11 x W12 l11 l12 hx => ?_)
  rw [hrt] at hx
  obtain ⟨r2, hr2⟩ : ∃ y, parseS rt = y := ⟨_, rfl⟩
  rw [hr2] at hx hF
  obtain ⟨ql, e2⟩ := r2
  obtain ⟨q, rfl, hq⟩ := hx
  dsimp only at hq
  obtain ⟨aq, cq, rfl, _, _⟩ := hq.form
  refine ⟨_, rfl, _, rfl, ?_⟩
  have lG := lC.trans (l7.trans (l8.trans (l9.trans (l10.trans (l11.trans l12)))))
  refine ⟨b3 0 (by decide), pa, rfl, strV m, (rd 0 m W12 lG rfl).o, rfl, ?_⟩
  rcases unV_cases hr1 with ⟨hun, he1⟩ | ⟨hun, he1⟩
  · rw [hun] at hF
    refine br_yes he1 ⟨rfl, ?_⟩
    by_cases h2 : e2 = 0
    · subst h2
      have hF : firstS line = some ⟨m, pth, ql⟩ := hF
      exact ret_m1 rfl rfl rfl rfl fun W' lw ho => by rw [hF]; exact ⟨rfl, _, hq.mono lw, ho⟩
    · have hF : firstS line = none := by
        rw [hF]
        split
        · rename_i h1; simp only [Prod.mk.injEq] at h1; exact absurd h1.2 h2
        · rfl
      exact ret_m1 rfl rfl rfl rfl fun W' lw ho => by rw [hF]; exact ⟨congrArg Value.bool (decide_eq_false (show ¬ (e2 : Int) = 0 by omega)), _, _, _, ho⟩
  · rw [hun] at hF
    have hF : firstS line = none := hF
    refine br_no (by rw [he1]; decide) ?_
    exact ret_m1 rfl rfl rfl rfl fun W' lw ho => by rw [hF]; exact ⟨rfl, _, _, _, ho⟩
end Go.Proofs.YtkhgmmejgikgnaaDoor
