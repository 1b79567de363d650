/- The statement LexRemarks, walked. -/
import Derived.Test.YtcgbcbdgjhnlaaaLexA
namespace Go.Proofs.Ytcgbcbdgjhnlaaa
open Go.RowKit

theorem lexA_ok {s : List UInt8} {l : List Tok} {e : Int} (h : lexA s = (l, e)) (he : e = 0) : lexS s = some l ∧ s.length ≤ 16384 := by
  subst he
  unfold lexA at h
  split at h
  · cases h
  · split at h
    · rename_i l' hl
      simp only [Prod.mk.injEq, and_true] at h
      subst h; exact ⟨hl, by omega⟩
    · cases h
theorem lexF_cnt : ∀ (n : Nat) (s : List UInt8) (l : List Tok), lexF n s = some l → l.length ≤ s.length ∧ ∀ x ∈ l, x.r ≤ s.length
  | 0, s, l, h => by simp [lexF] at h
  | n + 1, s, l, h => by
    simp only [lexF] at h
    have h0 := skipM_len false s
    split at h
    · simp only [Option.some.injEq] at h; subst h; exact ⟨Nat.zero_le _, fun x hx => by cases hx⟩
    · rename_i c r hc
      rw [hc] at h0; simp only [List.length_cons] at h0
      split at h
      · cases h
      · rename_i k t rest ht
        split at h
        · cases h
        · rename_i l' hl'
          simp only [Option.some.injEq] at h; subst h
          obtain ⟨h1, h2⟩ := lexF_cnt n rest l' hl'
          have h3 := tokS_len ht
          refine ⟨by simp only [List.length_cons]; omega, fun x hx => ?_⟩
          rcases List.mem_cons.1 hx with rfl | hx
          · simp only [List.length_cons]; omega
          · have := h2 x hx; omega
theorem eqTok : EqOK Try.prog 29 [29] := ⟨Try.eqGuardType29, fun s hs => by rw [List.mem_singleton.1 hs]; exact Try.stoodInHeld29⟩
theorem tokC_up {n m d : Nat} {x : Tok} (h : m = n + d) : tokC m (x.up d) = tokC n x := by
  subst h
  have e : ((n + d : Nat) : Int) - ((x.r + d : Nat) : Int) = n - x.r := by omega
  show [_, _, Value.int .i64 (((n + d : Nat) : Int) - ((x.r + d : Nat) : Int))] = _
  rw [e]; rfl
theorem addlen {x y : List UInt8} (hx : x.length ≤ 100000) (hy : y.length ≤ 100000) : (x.length : Int) + y.length ≤ 9223372036854775807 := by omega
set_option maxHeartbeats 2000000 in
theorem remarks_x (s0 m0 t0 : List UInt8) (W : PW) : CallsX Try.prog 3 ⟨[strV s0, strV m0, strV t0]⟩ [] W fun v _ => v = .bool true := by
  refine pureX hmix Try.func3 r3 (by kernel_rfl) [strV s0, strV m0, strV t0] rfl ?_
  refine call_v rfl (fun W' => fun _ => short_x s0 200 W') (fun W1 v W1' _ _ h => ?_)
  obtain ⟨s, hs, rfl⟩ : ∃ s, s.length ≤ 200 ∧ v = strV s := ⟨_, by simp; omega, h⟩
  refine call_v rfl (fun W' => fun _ => short_x m0 60 W') (fun W2 v W2' _ _ h => ?_)
  obtain ⟨m, hm, rfl⟩ : ∃ s, s.length ≤ 60 ∧ v = strV s := ⟨_, by simp; omega, h⟩
  refine call_v rfl (fun W' => fun _ => short_x t0 200 W') (fun W3 v W3' _ _ h => ?_)
  obtain ⟨t, ht, rfl⟩ : ∃ s, s.length ≤ 200 ∧ v = strV s := ⟨_, by simp; omega, h⟩
  obtain ⟨a, e, hA⟩ : ∃ a e, lexA s = (a, e) := ⟨_, _, rfl⟩
  obtain ⟨b, e', hB⟩ : ∃ a e, lexA t = (a, e) := ⟨_, _, rfl⟩
  refine call_v rfl (fun W' _ => lex_x s W') (fun W4 v W5 _ l5 hv => ?_)
  rw [hA] at hv
  dsimp only at hv
  obtain ⟨ua, rfl, hua⟩ := hv
  obtain ⟨Aa, ca, rfl, _, _⟩ := hua.form
  refine ⟨_, rfl, _, rfl, ?_⟩
  refine call_v rfl (fun W' _ => lex_x t W') (fun W6 v W7 l6 l7 hv => ?_)
  rw [hB] at hv
  dsimp only at hv
  obtain ⟨ub, rfl, hub⟩ := hv
  obtain ⟨Ab, cb, rfl, _, _⟩ := hub.form
  have hua := hua.mono (l6.trans l7)
  refine ⟨_, rfl, _, rfl, rfl, br_nsplit (fun he => ?_) (fun he => ?_)⟩
  · refine call_v rfl (fun W' _ => lexlives_x W') (fun W5 v W6 _ _ hv => ?_)
    subst hv
    exact ret_plain rfl fun _ _ => rfl
  refine ⟨rfl, br_nsplit (fun he' => ?_) (fun he' => ?_)⟩
  · refine call_v rfl (fun W' _ => lexlives_x W') (fun W5 v W6 _ _ hv => ?_)
    subst hv
    exact ret_plain rfl fun _ _ => rfl
  obtain ⟨ha, _⟩ := lexA_ok hA he
  obtain ⟨hb, _⟩ := lexA_ok hB he'
  obtain ⟨na, _⟩ := lexF_cnt _ _ _ ha
  obtain ⟨nb, nbr⟩ := lexF_cnt _ _ _ hb
  refine ⟨Nat, fun i => [(11, .v (.int .i64 i))], fun _ => [], fun _ => [], fun i _ => i ≤ m.length ∧ ∀ c ∈ m.take i, ¬ c.toNat = 10, fun i => m.length - i, 0,
    all_sl ⟨rfl, trivial⟩, rfl, ole_refl _, ⟨Nat.zero_le _, by simp⟩, loopOK (fun _ => ⟨⟨trivial, rfl⟩, trivial⟩) (fun _ => rfl) (fun _ => rfl), ?_⟩
  rintro i W8 l8 ⟨hi, hI⟩ f
  refine ⟨rfl, br_split (fun h => ?_) (fun h => ?_)⟩
  · have h : (i : Int) < m.length := h
    have hil : i < m.length := by omega
    have hbt : byteAt m (i : Int).toNat = (m[i]).toNat := byteAt_get (List.getElem?_eq_getElem hil)
    refine ⟨⟨by omega, h⟩, rfl, br_split (fun h10 => ?_) (fun h10 => ?_)⟩
    · refine call_v rfl (fun W' _ => lexlives_x W') (fun W5 v W6 _ _ hv => ?_)
      subst hv
      exact ret_plain rfl fun _ _ => rfl
    · have h10 : ¬ byteAt m (i : Int).toNat = 10 := h10
      rw [hbt] at h10
      refine ⟨rfl, _, (i64_in ((i : Int) + 1) ⟨by omega, by omega⟩).symm, i + 1, all_sl ⟨rfl, trivial⟩, rfl, ole_refl _, ⟨hil, fun c hc => ?_⟩, by dsimp only; omega⟩
      rw [List.take_add_one, List.getElem?_eq_getElem hil] at hc
      rcases List.mem_append.1 hc with hc | hc
      · exact hI c hc
      · simp at hc; subst hc; omega
  have h : ¬ (i : Int) < m.length := h
  rw [List.take_of_length_le (by omega)] at hI
  have l1 : (s ++ [10]).length = s.length + 1 := by simp
  have l2 : ((s ++ [10]) ++ [47, 47]).length = s.length + 3 := by simp
  have l3 : (((s ++ [10]) ++ [47, 47]) ++ m).length = s.length + m.length + 3 := by simp; omega
  have l4 : ((((s ++ [10]) ++ [47, 47]) ++ m) ++ [10]).length = s.length + m.length + 4 := by simp; omega
  refine ⟨addlen (x := s) (y := [10]) (by omega) (by decide), ?_⟩
  refine ⟨addlen (x := s ++ [10]) (y := [47, 47]) (by omega) (by decide), ?_⟩
  refine ⟨addlen (x := (s ++ [10]) ++ [47, 47]) (y := m) (by omega) (by omega), ?_⟩
  refine ⟨addlen (x := ((s ++ [10]) ++ [47, 47]) ++ m) (y := [10]) (by omega) (by decide), ?_⟩
  refine ⟨addlen (x := (((s ++ [10]) ++ [47, 47]) ++ m) ++ [10]) (y := t) (by omega) (by omega), ?_⟩
  have hall : ((((s ++ [10]) ++ [47, 47]) ++ m) ++ [10]) ++ t = s ++ 10 :: 47 :: 47 :: (m ++ 10 :: t) := by simp
  have hC : lexA (((((s ++ [10]) ++ [47, 47]) ++ m) ++ [10]) ++ t) = (a.map (Tok.up (m.length + t.length + 4)) ++ b, 0) := by
    rw [hall]; unfold lexA
    rw [if_neg (by simp; omega), lex_remarks ha hb hI]
  have hCl : (((((s ++ [10]) ++ [47, 47]) ++ m) ++ [10]) ++ t).length = s.length + (m.length + t.length + 4) := by simp; omega
  refine call_v rfl (fun W' _ => lex_x (((((s ++ [10]) ++ [47, 47]) ++ m) ++ [10]) ++ t) W') (fun W9 v W10 l9 l10 hv => ?_)
  rw [hC, hCl] at hv
  dsimp only at hv
  obtain ⟨uc, rfl, huc⟩ := hv
  obtain ⟨Ac, cc, rfl, _, _⟩ := huc.form
  have hua := hua.mono (l8.trans (l9.trans l10))
  have hub := hub.mono (l8.trans (l9.trans l10))
  have hlen : (a.map (Tok.up (m.length + t.length + 4)) ++ b).length = a.length + b.length := by simp
  refine ⟨_, rfl, _, rfl, rfl, ?_⟩
  refine ⟨rfl, _, (i64_in ((a.length : Int) + b.length) ⟨by omega, by omega⟩).symm, rfl, br_nsplit (fun hne => ?_) (fun hne => ?_)⟩
  · exact absurd (by show (((a.map (Tok.up (m.length + t.length + 4)) ++ b).length : Nat) : Int) = _; rw [hlen]; push_cast; rfl) hne
  refine ⟨Nat, fun i => [(15, .v (.int .i64 i))], fun _ => [], fun _ => [], fun i _ => i ≤ a.length + b.length, fun i => a.length + b.length - i, 0,
    all_sl ⟨rfl, trivial⟩, rfl, ole_refl _, Nat.zero_le _, loopOK (fun _ => ⟨⟨trivial, rfl⟩, trivial⟩) (fun _ => rfl) (fun _ => rfl), ?_⟩
  rintro i W11 l11 hi f2
  refine ⟨rfl, br_split (fun h => ?_) (fun h => ?_)⟩
  · have h : (i : Int) < (((a.map (Tok.up (m.length + t.length + 4)) ++ b).length : Nat) : Int) := h
    rw [hlen] at h
    obtain ⟨pc, rfl, xc, hxc, _, _, hrc⟩ := huc.at (sz := 3) (tokC_len _) l11 (j := i) ⟨by omega, by rw [hlen]; exact h⟩
    have hxc : (a.map (Tok.up (m.length + t.length + 4)) ++ b)[i]? = some xc := hxc
    have go : ∀ r, eqV 1 (.int .i64 r) (.int .i64 r) = some true := fun r => by simp [eqV]
    refine ⟨rfl, br_split (fun hia => ?_) (fun hia => ?_)⟩
    · have hia : (i : Int) < a.length := hia
      obtain ⟨pa, rfl, xa, hxa, _, _, hra⟩ := hua.at (sz := 3) (tokC_len _) l11 (j := i) ⟨by omega, by omega⟩
      have hxa : a[i]? = some xa := hxa
      rw [List.getElem?_append_left (by simp; omega), List.getElem?_map, hxa] at hxc
      simp only [Option.map_some, Option.some.injEq] at hxc
      subst hxc
      rw [tokC_up rfl] at hrc
      refine ⟨⟨by omega, hia⟩, pa, rfl, tokC s.length xa, rfl, hra.o, ?_⟩
      refine ⟨⟨by omega, by show (i : Int) < (((a.map (Tok.up (m.length + t.length + 4)) ++ b).length : Nat) : Int); rw [hlen]; exact h⟩, pc, rfl, tokC s.length xa, rfl, hrc.o, eqTok, br_bool (fun hb => ?_) (fun hb => ?_)⟩
      · exfalso; simp at hb
      · exact ⟨rfl, _, (i64_in ((i : Int) + 1) ⟨by omega, by omega⟩).symm, i + 1, all_sl ⟨rfl, trivial⟩, rfl, ole_refl _, by omega, by dsimp only; omega⟩
    · have hia : ¬ (i : Int) < a.length := hia
      obtain ⟨pb, rfl, xb, hxb, _, _, hrb⟩ := hub.at (sz := 3) (tokC_len _) l11 (j := (i : Int) - a.length) ⟨by omega, by omega⟩
      rw [show ((i : Int) - a.length).toNat = i - a.length by omega] at hxb
      rw [List.getElem?_append_right (by simp; omega), List.length_map, hxb] at hxc
      simp only [Option.some.injEq] at hxc
      subst hxc
      have hxr := nbr _ (List.mem_of_getElem? hxb)
      refine ⟨rfl, _, (i64_in ((i : Int) - a.length) ⟨by omega, by omega⟩).symm, ⟨by omega, by omega⟩, pb, rfl, tokC t.length xb, rfl, hrb.o, ?_⟩
      refine ⟨rfl, _, (i64_in ((t.length : Int) - xb.r + ((s ++ [10]).length : Nat)) ⟨by omega, by omega⟩).symm, rfl, _, (i64_in ((t.length : Int) - xb.r + ((s ++ [10]).length : Nat) + m.length) ⟨by omega, by omega⟩).symm, rfl, _, (i64_in ((t.length : Int) - xb.r + ((s ++ [10]).length : Nat) + m.length + 3) ⟨by omega, by omega⟩).symm, ?_⟩
      refine ⟨⟨by omega, by show (i : Int) < (((a.map (Tok.up (m.length + t.length + 4)) ++ b).length : Nat) : Int); rw [hlen]; exact h⟩, pc, rfl, tokC (s.length + (m.length + t.length + 4)) xb, rfl, hrc.o, eqTok, br_bool (fun hb => ?_) (fun hb => ?_)⟩
      · exfalso
        have : ((s.length + (m.length + t.length + 4) : Nat) : Int) - xb.r = (t.length : Int) - xb.r + ((s ++ [10]).length : Nat) + m.length + 3 := by omega
        simp at hb; omega
      · exact ⟨rfl, _, (i64_in ((i : Int) + 1) ⟨by omega, by omega⟩).symm, i + 1, all_sl ⟨rfl, trivial⟩, rfl, ole_refl _, by omega, by dsimp only; omega⟩
  · refine call_v rfl (fun W' _ => lexlives_x W') (fun W5 v W6 _ _ hv => ?_)
    subst hv
    exact ret_plain rfl fun _ _ => rfl
end Go.Proofs.Ytcgbcbdgjhnlaaa
