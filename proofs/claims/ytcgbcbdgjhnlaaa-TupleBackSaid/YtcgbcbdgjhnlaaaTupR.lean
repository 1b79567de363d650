/- The document's functions of layer 11, walked. -/
import Derived.Test.YtcgbcbdgjhnlaaaTupV
import Derived.Test.YtcgbcbdgjhnlaaaRefW
namespace Go.Proofs.Ytcgbcbdgjhnlaaa
open Go.RowKit

theorem refid_x (s : List UInt8) (hs : s.length ≤ 1000000) (W : PW) : CallsX Try.prog 40 ⟨[strV s]⟩ [] W fun v _ => v = .bool (idS s) := by
  refine pureX hmix Try.func40 r40 (by kernel_rfl) [strV s] rfl ?_
  refine ⟨Nat, fun i => [(3, .v (.int .i64 i))], fun _ => [], fun _ => [], fun i _ => i ≤ s.length ∧ s.all idB = (s.drop i).all idB, fun i => s.length - i, 0,
    all_sl ⟨rfl, trivial⟩, rfl, ole_refl _, ⟨Nat.zero_le _, rfl⟩, loopOK (fun _ => ⟨⟨trivial, rfl⟩, trivial⟩) (fun _ => rfl) (fun _ => rfl), ?_⟩
  intro i W1 l1 ⟨hi, hI⟩ f
  refine ⟨rfl, br_split (fun h => ?_) (fun h => ?_)⟩
  · have h : (i : Int) < s.length := h
    have hil : i < s.length := by omega
    have hb : byteAt s (i : Int).toNat = (s[i]).toNat := byteAt_get (List.getElem?_eq_getElem hil)
    rw [List.drop_eq_getElem_cons hil, List.all_cons] at hI
    refine ⟨⟨by omega, h⟩, ?_⟩
    have no : idB s[i] = false → allS idB s = false := fun h => by simp [allS, hI, h]
    have go : idB s[i] = true → s.all idB = (s.drop (i + 1)).all idB := fun h => by rw [hI, h]; simp
    have inc := (i64_in ((i : Int) + 1) ⟨by omega, by omega⟩).symm
    have key : ∀ n : Nat, n = (s[i]).toNat → idB s[i] = (smallB (UInt8.ofNat n) || figB (UInt8.ofNat n) || (decide (65 ≤ n) && decide (n ≤ 90)) || decide (n = 46) || decide (n = 45)) := fun n hn => by subst hn; rw [UInt8.ofNat_toNat]; rfl
    clear key
    generalize hc : s[i] = c at hb no go
    refine ⟨rfl, ?_⟩
    repeat' first
      | refine ⟨rfl, _, inc, i + 1, all_sl ⟨rfl, trivial⟩, rfl, ole_refl _, ⟨by omega, go ?_⟩, by dsimp only; omega⟩
      | refine ⟨rfl, ?_⟩
      | refine br_split (fun h => ?_) (fun h => ?_)
      | refine br_nsplit (fun h => ?_) (fun h => ?_)
      | refine ret_plain rfl fun _ _ => ?_
    all_goals simp only [hb] at *
    all_goals first
      | (rw [idS, no]; simp only [idB, smallB, figB, Bool.or_eq_false_iff, Bool.and_eq_false_iff, decide_eq_false_iff_not]; omega)
      | (simp only [idB, smallB, figB, Bool.or_eq_true, Bool.and_eq_true, decide_eq_true_eq]; omega)
  · have h : ¬ (i : Int) < s.length := h
    rw [List.drop_eq_nil_of_le (by omega)] at hI
    refine ⟨rfl, br_split (fun h1 => ?_) (fun h1 => ?_)⟩
    · have h1 : (1 : Int) ≤ s.length := h1
      refine ⟨rfl, ret_plain rfl fun _ _ => ?_⟩
      show Value.bool (decide ((s.length : Int) ≤ 32)) = _
      congr 1
      rw [idS, allS, hI, Bool.eq_iff_iff]
      simp; omega
    · have h1 : ¬ (1 : Int) ≤ s.length := h1
      refine ret_plain rfl fun _ _ => ?_
      congr 1
      rw [idS, allS, Bool.eq_iff_iff]
      simp; omega
theorem wordS_head {s : List UInt8} {c : UInt8} (h : s[0]? = some c) : wordS s = (!decide (s ∈ kept) && (allS wordB s && smallB c)) := by
  cases s with
  | nil => cases h
  | cons d r =>
    simp only [List.getElem?_cons_zero, Option.some.injEq] at h
    subst h; rfl
theorem smallB_iff (c : UInt8) : smallB c = true ↔ 97 ≤ c.toNat ∧ c.toNat ≤ 122 := by simp [smallB]
set_option maxRecDepth 10000 in
theorem refword_x (s : List UInt8) (hs : s.length ≤ 1000000) (W : PW) : CallsX Try.prog 38 ⟨[strV s]⟩ [] W fun v _ => v = .bool (wordS s) := by
  refine pureX hmix Try.func38 r38 (by kernel_rfl) [strV s] rfl ?_
  have lenF : allS wordB s = false → wordS s = false := fun h => by unfold wordS; rw [h]; simp
  refine ⟨rfl, br_split (fun h => ?_) (fun h1 => ?_)⟩
  · have h : (s.length : Int) < 1 := h
    refine ret_plain rfl fun _ _ => ?_
    rw [lenF]
    simp [allS]; omega
  have h1 : ¬ (s.length : Int) < 1 := h1
  refine ⟨rfl, br_split (fun h => ?_) (fun h2 => ?_)⟩
  · have h : (32 : Int) < s.length := h
    refine ret_plain rfl fun _ _ => ?_
    rw [lenF]
    simp [allS]; omega
  have h2 : ¬ (32 : Int) < s.length := h2
  have h00 : (0 : Int) < s.length := by omega
  obtain ⟨c, hc⟩ : ∃ c, s[0]? = some c := ⟨s[0]'(by omega), List.getElem?_eq_getElem (by omega)⟩
  have hb : byteAt s (0 : Int).toNat = c.toNat := byteAt_get hc
  have hws := wordS_head hc
  refine ⟨⟨by omega, h00⟩, ?_⟩
  refine ⟨rfl, ?_⟩
  refine br_split (fun h => ?_) (fun h3 => ?_)
  · have h : byteAt s (0 : Int).toNat < 97 := h
    rw [hb] at h
    refine ret_plain rfl fun _ _ => ?_
    have : smallB c = false := by rw [← Bool.not_eq_true, smallB_iff]; omega
    rw [hws, this]; simp
  have h3 : ¬ byteAt s (0 : Int).toNat < 97 := h3
  rw [hb] at h3
  refine ⟨⟨by omega, h00⟩, ?_⟩
  refine ⟨rfl, ?_⟩
  refine br_split (fun h => ?_) (fun h4 => ?_)
  · have h : (122 : Int) < byteAt s (0 : Int).toNat := h
    rw [hb] at h
    refine ret_plain rfl fun _ _ => ?_
    have : smallB c = false := by rw [← Bool.not_eq_true, smallB_iff]; omega
    rw [hws, this]; simp
  have h4 : ¬ (122 : Int) < byteAt s (0 : Int).toNat := h4
  rw [hb] at h4
  have hsm : smallB c = true := by rw [smallB_iff]; omega
  refine ⟨Nat, fun i => [(3, .v (.int .i64 i))], fun _ => [], fun _ => [], fun i _ => i ≤ s.length ∧ s.all wordB = (s.drop i).all wordB, fun i => s.length - i, 0,
    all_sl ⟨rfl, trivial⟩, rfl, ole_refl _, ⟨Nat.zero_le _, rfl⟩, loopOK (fun _ => ⟨⟨trivial, rfl⟩, trivial⟩) (fun _ => rfl) (fun _ => rfl), ?_⟩
  intro i W1 l1 ⟨hi, hI⟩ f
  refine ⟨rfl, br_split (fun h => ?_) (fun h => ?_)⟩
  · have h : (i : Int) < s.length := h
    have hil : i < s.length := by omega
    have hb : byteAt s (i : Int).toNat = (s[i]).toNat := byteAt_get (List.getElem?_eq_getElem hil)
    rw [List.drop_eq_getElem_cons hil, List.all_cons] at hI
    refine ⟨⟨by omega, h⟩, ?_⟩
    have no : wordB s[i] = false → wordS s = false := fun h => lenF (by rw [allS, hI, h]; rfl)
    have go : wordB s[i] = true → s.all wordB = (s.drop (i + 1)).all wordB := fun h => by rw [hI, h]; simp
    have inc := (i64_in ((i : Int) + 1) ⟨by omega, by omega⟩).symm
    generalize s[i] = d at hb no go
    refine ⟨rfl, ?_⟩
    repeat' first
      | refine ⟨rfl, _, inc, i + 1, all_sl ⟨rfl, trivial⟩, rfl, ole_refl _, ⟨by omega, go ?_⟩, by dsimp only; omega⟩
      | refine ⟨rfl, ?_⟩
      | refine br_split (fun h => ?_) (fun h => ?_)
      | refine br_nsplit (fun h => ?_) (fun h => ?_)
      | refine ret_plain rfl fun _ _ => ?_
    all_goals simp only [hb] at *
    all_goals first
      | (rw [no]; simp only [wordB, smallB, figB, Bool.or_eq_false_iff, Bool.and_eq_false_iff, decide_eq_false_iff_not]; omega)
      | (simp only [wordB, smallB, figB, Bool.or_eq_true, Bool.and_eq_true, decide_eq_true_eq]; omega)
  · have h : ¬ (i : Int) < s.length := h
    rw [List.drop_eq_nil_of_le (by omega)] at hI
    have hall : allS wordB s = true := by
      rw [allS, hI]; simp; omega
    have hw : wordS s = !decide (s ∈ kept) := by rw [hws, hall, hsm]; simp
    repeat' first
      | refine br_nsplit (fun h => ?_) (fun h => ?_)
      | refine ret_plain rfl fun _ _ => ?_
    all_goals (rw [hw]; congr 1; rw [Bool.eq_iff_iff]; simp only [kept, List.mem_cons, List.not_mem_nil, or_false, Bool.not_eq_true', decide_eq_false_iff_not, not_or]; dsimp only at *; simp_all)
end Go.Proofs.Ytcgbcbdgjhnlaaa
