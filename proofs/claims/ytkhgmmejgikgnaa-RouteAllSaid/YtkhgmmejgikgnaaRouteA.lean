/- RouteAll's walk: each place goes to a number of its own, by each of its methods, by no others. -/
import Derived.Test.YtkhgmmejgikgnaaRouteL
namespace Go.Proofs.Ytkhgmmejgikgnaa
open Go.RowKit
theorem all_find : ∀ r, r ∈ tableL → findL r.2.1 r.1 = (r.2.2, 0) := by decide
theorem all_inj : ∀ i, i < 18 → ∀ k, k < 18 → ((tableL.getD k ([], [], 0)).2.2 = (tableL.getD i ([], [], 0)).2.2 ↔ k = i) := by decide
theorem all_allowed (m : List UInt8) : ∀ r, r ∈ tableL → (((findL m r.1).2 = 0 ↔ m ∈ allowedL r.1) ∧ (m ∉ allowedL r.1 → (findL m r.1).2 = 23)) := by
  intro r hr
  by_cases h1 : m = [80, 79, 83, 84]
  · subst h1; revert r; decide
  · by_cases h2 : m = [71, 69, 84]
    · subst h2; revert r; decide
    · have ha : ∀ r, r ∈ tableL → ¬ ((placesL r.1).1 = 0 ∧ (placesL r.1).2 = 0) ∧ ∀ x, x ∈ allowedL r.1 → x = [80, 79, 83, 84] ∨ x = [71, 69, 84] := by decide
      obtain ⟨k1, k2⟩ := ha r hr
      have hf : findL m r.1 = (0, 23) := by simp only [findL, h1, h2, false_and, if_false]; rw [if_neg k1]
      rw [hf]
      refine ⟨⟨fun h => (by cases h), fun h => ((k2 m h).elim h1 h2).elim⟩, fun _ => rfl⟩
theorem all_x (x : Int) (m : ByteArray) (W : PW) : CallsX Try.prog 4 ⟨[.int .i64 x, .string m]⟩ [] W fun r _ => r = .bool true := by
  refine pureX hmix Try.func4 r4 (by kernel_rfl) [.int .i64 x, .string m] rfl ?_
  refine call_v rfl (fun W' _ => table_x W') (fun W₁ v W₂ _ _ hT => ?_)
  obtain ⟨A, c, rfl, hc1, hc2⟩ := hT.form
  refine ⟨rfl, _, (i64_in _ ⟨by decide, by decide⟩).symm, ?_⟩
  refine call_v rfl (fun W' _ => within_x x 0 _ W') (fun W₃ v W₄ l1 l2 h => ?_)
  obtain ⟨i, hi, rfl⟩ : ∃ i : Nat, i < 18 ∧ v = .int .i64 i := by
    refine ⟨(if x < 0 then 0 else if 17 < x then 17 else x).toNat, by split <;> (try split) <;> omega, ?_⟩
    rw [h]
    have : (((18 : Nat) : Int) - 1) = 17 := by decide
    rw [this]
    congr 1
    split <;> (try split) <;> omega
  have e18 : tableL.length = 18 := rfl
  have hi' : i < tableL.length := by omega
  have hT := hT.mono (l1.trans l2)
  obtain ⟨a, rfl, hr, _⟩ := hT.get (PW.Le.refl _) (j := i) ⟨by omega, by omega⟩ 3
  obtain ⟨k0, k1, k2⟩ := strCells_get (List.getElem?_eq_getElem hi')
  refine ⟨⟨by omega, by omega⟩, a, rfl, _, hr 1 _ k1, ⟨by omega, by omega⟩, a, rfl, _, hr 0 _ k0, ?_⟩
  refine call_v rfl (fun W' _ => find_x _ _ W') (fun W5 v W6 l3 l4 h => ?_)
  have h : v = intPair (tableL[i].2.2, 0) := h.trans (congrArg intPair (all_find _ (List.getElem_mem hi')))
  subst h
  refine ⟨_, rfl, _, rfl, rfl, ?_⟩
  have hT := hT.mono (l3.trans l4)
  obtain ⟨a, e, hr, _⟩ := hT.get (PW.Le.refl _) (j := i) ⟨by omega, by omega⟩ 3
  cases e
  refine ⟨⟨by omega, by omega⟩, a, rfl, _, hr 2 _ k2, rfl, br_nsplit (fun h => absurd rfl h) (fun _ => ?_)⟩
  refine ⟨Nat, fun t => [(8, .v (.int .i64 t))], fun _ => [], fun _ => [], fun t _ => t ≤ 18, fun t => 18 - t, 0,
    all_sl ⟨rfl, trivial⟩, rfl, ole_refl _, by omega, loopOK (fun _ => ⟨⟨trivial, rfl⟩, trivial⟩) (fun _ => rfl) (fun _ => rfl), ?_⟩
  intro k W7 l5 hk g
  refine ⟨rfl, br_split (fun h => ?_) (fun h => ?_)⟩
  · have hk' : k < tableL.length := by omega
    obtain ⟨a, e, hr, _⟩ := hT.get l5 (j := k) ⟨by omega, by omega⟩ 3
    cases e
    obtain ⟨q0, q1, q2⟩ := strCells_get (List.getElem?_eq_getElem hk')
    refine ⟨⟨by omega, by omega⟩, a, rfl, _, hr 1 _ q1, ⟨by omega, by omega⟩, a, rfl, _, hr 0 _ q0, ?_⟩
    refine call_v rfl (fun W' _ => find_x _ _ W') (fun W8 v W9 l6 l7 h => ?_)
    have h : v = intPair (tableL[k].2.2, 0) := h.trans (congrArg intPair (all_find _ (List.getElem_mem hk')))
    subst h
    refine ⟨_, rfl, _, rfl, rfl, rfl, rfl, ?_⟩
    have hin := all_inj i hi k (by omega)
    rw [List.getD_eq_getElem?_getD, List.getD_eq_getElem?_getD, List.getElem?_eq_getElem hi', List.getElem?_eq_getElem hk'] at hin
    simp only [Option.getD_some] at hin
    refine br_bool (fun hb => ?_) (fun _ => ?_)
    · exfalso
      by_cases hki : k = i
      · subst hki; simp at hb
      · have h1 : ¬ tableL[k].2.2 = tableL[i].2.2 := fun e => hki (hin.1 e)
        have h2 : ¬ (k : Int) = i := by omega
        simp [h1, h2] at hb
    · exact ⟨rfl, _, (i64_in ((k : Int) + 1) ⟨by omega, by omega⟩).symm, k + 1, all_sl ⟨rfl, trivial⟩, rfl, ole_refl _, by omega, by dsimp only; omega⟩
  have hT := hT.mono l5
  obtain ⟨a, e, hr, _⟩ := hT.get (PW.Le.refl _) (j := i) ⟨by omega, by omega⟩ 3
  cases e
  refine ⟨⟨by omega, by omega⟩, a, rfl, _, hr 0 _ k0, ?_⟩
  refine call_v rfl (fun W' _ => allowed_x _ W') (fun W8 v W9 l6 l7 hs => ?_)
  have hT := hT.mono (l6.trans l7)
  change RStrs W9 v (allowedL (tableL[i]).1) at hs
  obtain ⟨A2, c2, rfl, _, _⟩ := hs.form
  obtain ⟨ok1, ok2⟩ := all_allowed m.data.toList _ (List.getElem_mem hi')
  have hlen := allowedL_len (tableL[i]).1
  obtain ⟨L, hL⟩ : ∃ L, allowedL (tableL[i]).1 = L := ⟨_, rfl⟩
  rw [hL] at hs ok1 ok2 hlen
  have hLn : (allowedL (tableL[i]).1).length = L.length := by rw [hL]
  refine ⟨Nat × Bool, fun t => [(13, .v (.int .i64 t.1)), (11, .v (.bool t.2))], fun _ => [], fun _ => [], fun t _ => t.1 ≤ L.length ∧ t.2 = decide (m.data.toList ∈ L.take t.1), fun t => L.length - t.1, (0, false),
    all_sl ⟨rfl, rfl, trivial⟩, rfl, ole_refl _, ⟨by omega, by simp⟩, loopOK (fun _ => ⟨⟨trivial, rfl⟩, ⟨trivial, rfl⟩, trivial⟩) (fun _ => rfl) (fun _ => rfl), ?_⟩
  rintro ⟨j, is⟩ W10 l8 ⟨hj, his⟩ g2
  dsimp only at hj his
  refine ⟨rfl, br_split (fun h => ?_) (fun h => ?_)⟩
  · have hjl : j < L.length := by omega
    refine br_bool (fun hb => ?_) (fun hb => ?_)
    · refine ⟨rfl, _, (i64_in ((j : Int) + 1) ⟨by omega, by omega⟩).symm, (j + 1, true), all_sl ⟨rfl, rfl, trivial⟩, rfl, ole_refl _, ⟨by omega, ?_⟩, by dsimp only; omega⟩
      subst hb
      have : m.data.toList ∈ L.take j := of_decide_eq_true his.symm
      symm; rw [decide_eq_true_eq]
      rw [List.take_add_one]; exact List.mem_append_left _ this
    · subst hb
      obtain ⟨a2, rfl, _, hr2⟩ := hs.get l8 (j := j) ⟨by omega, by omega⟩ 1
      have q1 : (L.map strV)[(j : Int).toNat * 1]? = some (strV L[j]) := by simp [hjl]
      refine ⟨⟨by omega, by omega⟩, a2, rfl, _, hr2 _ q1, rfl, _, (i64_in ((j : Int) + 1) ⟨by omega, by omega⟩).symm, (j + 1, decide (L[j] = m.data.toList)), all_sl ⟨rfl, rfl, trivial⟩, rfl, ole_refl _, ⟨by omega, ?_⟩, by dsimp only; omega⟩
      have h1 : ¬ m.data.toList ∈ L.take j := of_decide_eq_false his.symm
      dsimp only
      rw [List.take_add_one, decide_eq_decide]
      rw [List.getElem?_eq_getElem hjl]
      simp only [Option.toList_some, List.mem_append, List.mem_singleton, h1, false_or]
      exact ⟨Eq.symm, Eq.symm⟩
  have hT := hT.mono l8
  obtain ⟨a, e, hr, _⟩ := hT.get (PW.Le.refl _) (j := i) ⟨by omega, by omega⟩ 3
  cases e
  refine ⟨⟨by omega, by omega⟩, a, rfl, _, hr 0 _ k0, ?_⟩
  refine call_v rfl (fun W' _ => find_x _ _ W') (fun W11 v W12 l9 l10 h => ?_)
  obtain ⟨n, f, hnf, rfl⟩ : ∃ n f, findL m.data.toList (tableL[i]).1 = (n, f) ∧ v = .tuple ⟨[.int .i64 n, .int .i64 f]⟩ := ⟨_, _, rfl, h⟩
  rw [hnf] at ok1 ok2
  have hje : j = L.length := by omega
  rw [hje, List.take_length] at his
  refine ⟨_, rfl, _, rfl, rfl, ?_⟩
  by_cases hin : m.data.toList ∈ L
  · have hf : f = 0 := ok1.2 hin
    subst hf
    rw [decide_eq_true hin] at his
    subst his
    refine call_v rfl (fun W' => fun _ => lives_x W') (fun W13 v W14 _ _ h => ?_); subst h
    exact ret_plain rfl fun _ _ => rfl
  · have hf : f = 23 := ok2 hin
    subst hf
    rw [decide_eq_false hin] at his
    subst his
    refine ⟨rfl, ?_⟩
    refine call_v rfl (fun W' => fun _ => lives_x W') (fun W13 v W14 _ _ h => ?_); subst h
    exact ret_plain rfl fun _ _ => rfl
end Go.Proofs.Ytkhgmmejgikgnaa
