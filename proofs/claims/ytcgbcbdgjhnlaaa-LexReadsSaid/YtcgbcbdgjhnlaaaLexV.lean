/- The program's functions of layer 15, walked, second part: tokens, texts. -/
import Derived.Test.YtcgbcbdgjhnlaaaLexW
import Derived.Test.YtcgbcbdgjhnlaaaShelf
namespace Go.Proofs.Ytcgbcbdgjhnlaaa
open Go.RowKit

theorem u8_back (c : UInt8) : ((c.toNat : Int)).toNat.toUInt8 = c := by simp
theorem indexByte_neg (c : UInt8) : ∀ l : List UInt8, -1 ≤ Lib.indexByte l c ∧ (0 ≤ Lib.indexByte l c ↔ c ∈ l)
  | [] => by simp [Lib.indexByte]
  | a :: l => by
    obtain ⟨h1, h2⟩ := indexByte_neg c l
    simp only [Lib.indexByte]
    by_cases ha : a = c
    · subst ha; simp
    · have hc : ¬ c = a := fun e => ha e.symm
      have h0 : (a == c) = false := by simp [ha]
      rw [h0]
      simp only [Bool.false_eq_true, if_false, List.mem_cons, hc, false_or]
      by_cases hm : Lib.indexByte l c = -1
      · rw [hm] at h2 ⊢
        simp only [beq_self_eq_true, if_true]
        exact ⟨by omega, h2⟩
      · have : (Lib.indexByte l c == -1) = false := by simp [hm]
        rw [this]
        simp only [Bool.false_eq_true, if_false]
        rw [← h2]
        omega
theorem indexByte_x (l : List UInt8) (c : UInt8) (W : PW) : CallsX Try.prog 133 ⟨[strV l, .int .u8 c.toNat]⟩ [] W fun v _ => v = .int .i64 (Lib.indexByte l c) := by
  have h := Try.strings_IndexByte ⟨⟨l⟩⟩ c.toNat W.w
  rw [u8_back] at h
  exact CallsX.of_same ⟨_, Try.func133, by kernel_rfl, by kernel_rfl⟩ h

theorem text_x (s : List UInt8) (hs : s.length ≤ 16384) (g : Nat) (W : PW) (i : Nat) (hi : i < s.length) (ho : OwnB W g (scanC s i)) :
    CallsX Try.prog 132 ⟨[.pointer (some ⟨g, 0, none⟩)]⟩ [g] W fun v W' => ∃ j, j ≤ s.length ∧ OwnB W' g (scanC s j) ∧
      ((∃ d r', (s.drop (i + 1)).dropWhile textB = d :: r' ∧ d.toNat = 34 ∧ v = .tuple ⟨[strV ((s.drop (i + 1)).takeWhile textB), .bool true]⟩ ∧ s.drop j = r') ∨
       ((∀ d r', (s.drop (i + 1)).dropWhile textB = d :: r' → ¬ d.toNat = 34) ∧ v = .tuple ⟨[strV [], .bool false]⟩)) := by
  refine methX hmix Try.func132 r132 (by kernel_rfl) ho [] rfl ?_
  refine ⟨rfl, _, (i64_in ((i : Int) + 1) ⟨by omega, by omega⟩).symm, ?_⟩
  refine call_m1 rfl rfl rfl rfl k127 (fun g' W' _ how => (run_x textb_x s (i + 1) (by omega) hs g' W' how).mono fun v W2 ⟨hw, hv⟩ _ => ⟨_, hw, ?_⟩)
  subst hv
  have hj := takeWhile_le textB s (i + 1) (by omega)
  have hd : s.drop (i + 1 + ((s.drop (i + 1)).takeWhile textB).length) = (s.drop (i + 1)).dropWhile textB := by rw [← drop_takeWhile, List.drop_drop]
  generalize i + 1 + ((s.drop (i + 1)).takeWhile textB).length = j at hj hd hw
  refine ⟨rfl, br_split (fun h => ?_) (fun h => ?_)⟩
  · have h : (j : Int) = s.length := h
    refine ret_m1 rfl rfl rfl rfl fun W' _ hw => ⟨j, hj, hw, .inr ⟨fun d r' e => ?_, rfl⟩⟩
    rw [← hd, List.drop_eq_nil_of_le (by omega)] at e; cases e
  · have h : ¬ (j : Int) = s.length := h
    have hlt : j < s.length := by omega
    have hc : s.drop j = s[j] :: s.drop (j + 1) := List.drop_eq_getElem_cons hlt
    have hb : byteAt s j = (s[j]).toNat := byteAt_get (List.getElem?_eq_getElem hlt)
    refine ⟨⟨by omega, show (j : Int) < s.length by omega⟩, rfl, br_nsplit (fun h2 => ?_) (fun h2 => ?_)⟩
    · have h2 : ¬ byteAt s j = 34 := h2
      rw [hb] at h2
      refine ret_m1 rfl rfl rfl rfl fun W' _ hw => ⟨j, hj, hw, .inr ⟨fun d r' e => ?_, rfl⟩⟩
      rw [← hd, hc, List.cons.injEq] at e
      rw [← e.1]; omega
    · have h2 : byteAt s j = 34 := h2
      rw [hb] at h2
      refine ⟨rfl, _, (i64_in ((j : Int) + 1) ⟨by omega, by omega⟩).symm, ?_⟩
      refine ret_m1 rfl rfl rfl rfl fun W' _ hw => ⟨j + 1, by omega, hw, .inl ⟨s[j], s.drop (j + 1), by rw [← hd, hc], by omega, rfl, rfl⟩⟩

def tokC (n : Nat) (x : Tok) : List Value := [.int .i64 x.k, strV x.t, .int .i64 ((n : Int) - x.r)]
theorem tokC_len (n : Nat) (x : Tok) : (tokC n x).length = 3 := rfl
theorem token_x (s : List UInt8) (hs : s.length ≤ 16384) (g : Nat) (W : PW) (i : Nat) (c : UInt8) (r : List UInt8) (hc : s.drop i = c :: r) (ho : OwnB W g (scanC s i)) :
    CallsX Try.prog 81 ⟨[.pointer (some ⟨g, 0, none⟩)]⟩ [g] W fun v W' => ∃ j, j ≤ s.length ∧ OwnB W' g (scanC s j) ∧
      match tokS c r with
      | some (k, t, rest) => v = .tuple ⟨[.agg ⟨[.int .i64 k, strV t, .int .i64 i]⟩, .bool true]⟩ ∧ s.drop j = rest
      | none => ∃ (k : Int) (t : List UInt8), v = .tuple ⟨[.agg ⟨[.int .i64 k, strV t, .int .i64 i]⟩, .bool false]⟩ := by
  obtain ⟨hg, hr, hlt⟩ := drop_get hc
  have hb : byteAt s i = c.toNat := byteAt_get hg
  have hsr : s.length = i + 1 + r.length := by have := congrArg List.length hr; simp at this; omega
  refine methX hmix Try.func81 r81 (by kernel_rfl) ho [] rfl ?_
  refine ⟨⟨by omega, show (i : Int) < s.length by omega⟩, ?_⟩
  refine call_v rfl (R := fun _ v _ => v = .bool (nameB c)) (fun W' _ => (congrArg (fun x => CallsX Try.prog 131 ⟨[.int .u8 x]⟩ [] W' fun v _ => v = .bool (nameB c)) hb).mpr (letter_x _ W')) (fun W2 v W3 _ _ hv => ?_)
  subst hv
  refine br_bool (fun hn => ?_) (fun hn => ?_)
  · refine call_m1 rfl rfl rfl rfl k127 (fun g' W' _ how => (run_x letter_x s i (by omega) hs g' W' how).mono fun v W2 ⟨hw, hv⟩ _ => ⟨_, hw, ?_⟩)
    subst hv
    refine ret_m1 rfl rfl rfl rfl fun W' _ hw => ⟨_, takeWhile_le nameB s i (by omega), hw, ?_⟩
    have ht : tokS c r = some (1, c :: r.takeWhile nameB, r.dropWhile nameB) := by unfold tokS; rw [if_pos hn]
    have hw1 : (s.drop i).takeWhile nameB = c :: r.takeWhile nameB := by rw [hc, List.takeWhile_cons, hn]; rfl
    rw [ht, hw1]
    refine ⟨rfl, ?_⟩
    rw [← hw1, ← List.drop_drop, drop_takeWhile, hc, List.dropWhile_cons, hn]; rfl
  have hn' : ¬ nameB c = true := by rw [hn]; exact Bool.false_ne_true
  refine ⟨rfl, br_split (fun h34 => ?_) (fun h34 => ?_)⟩
  · have h34 : byteAt s i = 34 := h34
    rw [hb] at h34
    have h34' : c.toNat = 34 := by omega
    refine call_m1 rfl rfl rfl rfl k132 (fun g' W' _ how => (text_x s hs g' W' i hlt how).mono fun v W2 ⟨j, hj, hw, hv⟩ _ => ⟨_, hw, ?_⟩)
    rw [hr] at hv
    rcases hv with ⟨d, r', e1, e2, rfl, e3⟩ | ⟨e1, rfl⟩
    · refine ⟨_, rfl, _, rfl, ?_⟩
      refine ret_m1 rfl rfl rfl rfl fun W' _ hw => ⟨j, hj, hw, ?_⟩
      have ht : tokS c r = some (2, r.takeWhile textB, r') := by unfold tokS; rw [if_neg hn', if_pos h34', e1]; exact if_pos e2
      rw [ht]; exact ⟨rfl, e3⟩
    · refine ⟨_, rfl, _, rfl, ?_⟩
      refine ret_m1 rfl rfl rfl rfl fun W' _ hw => ⟨j, hj, hw, ?_⟩
      have ht : tokS c r = none := by
        unfold tokS; rw [if_neg hn', if_pos h34']
        cases e : r.dropWhile textB with
        | nil => rfl
        | cons d r' => exact if_neg (e1 d r' e)
      rw [ht]; exact ⟨_, [], rfl⟩
  have h34 : ¬ byteAt s i = 34 := h34
  rw [hb] at h34
  have h34' : ¬ c.toNat = 34 := by omega
  have hcut : (s.drop i).take (s.length - i) = c :: r := by rw [hc, List.take_of_length_le]; simp; omega
  refine ⟨⟨by omega, h2' (by omega), Int.le_refl _⟩, ?_⟩
  refine call_v rfl (fun W' _ => hasPrefix_x _ _ W') (fun W3 v W4 _ _ hv => ?_)
  subst hv
  refine br_split (fun hp => ?_) (fun hp => ?_)
  · have hp : ((s.drop i).take (s.length - i)).take 2 = [45, 62] := hp
    rw [hcut] at hp
    refine ⟨rfl, _, (i64_in ((i : Int) + 2) ⟨by omega, by omega⟩).symm, ?_⟩
    have hr2 : ∃ r', r = 62 :: r' ∧ c = 45 := by
      cases r with
      | nil => simp at hp
      | cons d r => simp at hp; exact ⟨r, by rw [hp.2], hp.1⟩
    obtain ⟨r', rfl, rfl⟩ := hr2
    simp only [List.length_cons] at hsr
    refine ret_m1 rfl rfl rfl rfl fun W' _ hw => ⟨i + 2, by omega, hw, ?_⟩
    exact ⟨rfl, (drop_get hr).2.1⟩
  · have hp : ¬ ((s.drop i).take (s.length - i)).take 2 = [45, 62] := hp
    rw [hcut] at hp
    refine call_v rfl (R := fun _ v _ => v = .int .i64 (Lib.indexByte signL c)) (fun W' _ => (congrArg (fun x => CallsX Try.prog 133 ⟨[strV signL, .int .u8 x]⟩ [] W' fun v _ => v = .int .i64 (Lib.indexByte signL c)) hb).mpr (indexByte_x _ _ W')) (fun W5 v W6 _ _ hv => ?_)
    subst hv
    obtain ⟨_, hm⟩ := indexByte_neg c signL
    refine ⟨rfl, br_split (fun hs1 => ?_) (fun hs1 => ?_)⟩
    · have hin := hm.1 hs1
      refine ⟨rfl, _, (i64_in ((i : Int) + 1) ⟨by omega, by omega⟩).symm, ⟨by omega, by omega, show (i : Int) + 1 ≤ s.length by omega⟩, rfl, _, (i64_in ((i : Int) + 1) ⟨by omega, by omega⟩).symm, ?_⟩
      refine ret_m1 rfl rfl rfl rfl fun W' _ hw => ⟨i + 1, by omega, hw, ?_⟩
      have ht : tokS c r = some (3, [c], r) := by rw [tokS_sign hn' h34' hp, if_pos hin]
      rw [ht]
      refine ⟨?_, hr⟩
      have : (s.drop i).take (((i : Int) + 1).toNat - i) = [c] := by rw [hc, show ((i : Int) + 1).toNat - i = 1 by omega]; rfl
      show Value.tuple ⟨[.agg ⟨[.int .i64 3, strV ((s.drop i).take (((i : Int) + 1).toNat - i)), .int .i64 i]⟩, .bool true]⟩ = _
      rw [this]; rfl
    · refine ret_m1 rfl rfl rfl rfl fun W' _ hw => ⟨i, by omega, hw, ?_⟩
      have ht : tokS c r = none := by rw [tokS_sign hn' h34' hp]; exact if_neg fun h => hs1 (hm.2 h)
      rw [ht]; exact ⟨_, [], rfl⟩
end Go.Proofs.Ytcgbcbdgjhnlaaa
