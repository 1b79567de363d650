/- HttpLimits, plain: the text that it makes, and what is read of it. No program here. -/
import Derived.Test.YtkhgmmejgikgnaaDoorLimD
namespace Go.Proofs.YtkhgmmejgikgnaaDoor
open Go.RowKit

/-! ## Lines, joined -/
def joinC : List (List UInt8) → List UInt8
  | [] => []
  | [a] => a
  | a :: b :: r => a ++ crS ++ joinC (b :: r)
def Line (l : List UInt8) : Prop := (13 : UInt8) ∉ l ∧ l ≠ []
theorem no_at {l r : List UInt8} {sub : List UInt8} {j : Nat} {x : UInt8} (hx : (l ++ r)[j]? = some x) (hne : ¬ x = 13) (hs : ∃ t, sub = 13 :: t) : Lib.occAt (l ++ r) sub j = false := by
  obtain ⟨t, rfl⟩ := hs
  unfold Lib.occAt
  rw [drop_q hx]
  have : ((13 : UInt8) == x) = false := by simpa using fun e => hne e.symm
  simp [List.isPrefixOf, this]
theorem free_at {l r : List UInt8} {sub : List UInt8} (h : (13 : UInt8) ∉ l) (hs : ∃ t, sub = 13 :: t) : Lib.NoOcc (l ++ r) sub l.length := fun j hj => by
  have hx : (l ++ r)[j]? = some l[j] := by rw [List.getElem?_append_left hj, List.getElem?_eq_getElem hj]
  exact no_at hx (fun e => h (by rw [← e]; exact List.getElem_mem hj)) hs
theorem index_cr {l : List UInt8} (r : List UInt8) (h : (13 : UInt8) ∉ l) : Lib.index (l ++ crS ++ r) crS = l.length := by
  rw [List.append_assoc]
  refine Lib.index_hit (free_at h ⟨_, rfl⟩) (by rw [List.length_append]; omega) ?_
  unfold Lib.occAt
  rw [List.drop_left]
  rfl
theorem index_no {l : List UInt8} (h : (13 : UInt8) ∉ l) : Lib.index l crS = -1 := by
  have := free_at (r := []) (sub := crS) h ⟨_, rfl⟩
  rw [List.append_nil] at this
  exact Lib.index_past (by decide) this (by show l.length < l.length + 2; omega)
theorem split_last {l : List UInt8} (h : (13 : UInt8) ∉ l) : Lib.split l crS = [l] := by
  unfold Lib.split
  rw [Lib.count_miss (index_no h)]; rfl
theorem split_line {l : List UInt8} (r : List UInt8) (h : (13 : UInt8) ∉ l) : Lib.split (l ++ crS ++ r) crS = l :: Lib.split r crS := by
  have hi := index_cr r h
  have hd : (l ++ crS ++ r).drop (l.length + crS.length) = r := by rw [← List.length_append]; exact List.drop_left
  have ht : (l ++ crS ++ r).take l.length = l := by rw [List.append_assoc]; exact List.take_left' rfl
  unfold Lib.split
  rw [Lib.count_hit (by decide) hi, hd, Nat.add_comm 1]
  show (if Lib.index (l ++ crS ++ r) crS == -1 then _ else _) = _
  rw [hi, if_neg (by simp), Int.toNat_natCast, Nat.add_zero, ht, hd]
theorem split_join : ∀ {ls : List (List UInt8)}, ls ≠ [] → (∀ l ∈ ls, Line l) → Lib.split (joinC ls) crS = ls
  | [], h, _ => absurd rfl h
  | [a], _, h => split_last (h a (List.mem_cons_self ..)).1
  | a :: b :: r, _, h => by
    show Lib.split (a ++ crS ++ joinC (b :: r)) crS = _
    rw [split_line _ (h a (List.mem_cons_self ..)).1, split_join (by simp) fun l hl => h l (List.mem_cons_of_mem _ hl)]
theorem join_head {b : List UInt8} {r : List (List UInt8)} (hb : Line b) (t : List UInt8) : ∃ x s, joinC (b :: r) ++ t = x :: s ∧ ¬ x = 13 := by
  obtain ⟨h1, h2⟩ := hb
  match b, h1, h2 with
  | x :: b, h1, _ =>
    have hx : ¬ x = 13 := fun e => h1 (by rw [e]; exact List.mem_cons_self ..)
    cases r with
    | nil => exact ⟨x, b ++ t, rfl, hx⟩
    | cons c r => exact ⟨x, b ++ crS ++ joinC (c :: r) ++ t, rfl, hx⟩
  | [], _, h2 => exact absurd rfl h2
theorem index_end (rest : List UInt8) : ∀ {ls : List (List UInt8)}, ls ≠ [] → (∀ l ∈ ls, Line l) → Lib.index (joinC ls ++ crE ++ rest) crE = (joinC ls).length
  | [], h, _ => absurd rfl h
  | [a], _, h => by
    have h1 := (h a (List.mem_cons_self ..)).1
    show Lib.index (a ++ crE ++ rest) crE = a.length
    rw [List.append_assoc]
    refine Lib.index_hit (free_at h1 ⟨_, rfl⟩) (by rw [List.length_append]; omega) ?_
    unfold Lib.occAt
    rw [List.drop_left]
    rfl
  | a :: b :: r, _, h => by
    have ih := index_end rest (ls := b :: r) (by simp) fun l hl => h l (List.mem_cons_of_mem _ hl)
    have h1 := (h a (List.mem_cons_self ..)).1
    have hE : joinC (a :: b :: r) ++ crE ++ rest = a ++ (crS ++ (joinC (b :: r) ++ (crE ++ rest))) := by
      show a ++ crS ++ joinC (b :: r) ++ crE ++ rest = _
      simp only [List.append_assoc]
    rw [List.append_assoc] at ih
    obtain ⟨x, s, hxs, hx⟩ := join_head (h b (by simp)) (r := r) (crE ++ rest)
    rw [hE]
    have hno : Lib.NoOcc (a ++ (crS ++ (joinC (b :: r) ++ (crE ++ rest)))) crE (a.length + 2) := by
      refine Lib.NoOcc.succ (Lib.NoOcc.succ (free_at h1 ⟨_, rfl⟩) ?_) ?_
      · unfold Lib.occAt
        rw [List.drop_left, hxs]
        have : ((13 : UInt8) == x) = false := by simpa using fun e => hx e.symm
        simp [crS, crE, List.isPrefixOf, this]
      · refine no_at (x := 10) ?_ (by decide) ⟨_, rfl⟩
        rw [List.getElem?_append_right (by omega), Nat.add_sub_cancel_left]; rfl
    rw [Lib.index_drop hno (by rw [List.length_append, List.length_append]; show a.length + 2 ≤ a.length + (2 + _); omega)]
    have hd : (a ++ (crS ++ (joinC (b :: r) ++ (crE ++ rest)))).drop (a.length + 2) = joinC (b :: r) ++ (crE ++ rest) := by
      rw [← List.append_assoc]
      exact List.drop_left' (by rw [List.length_append]; rfl)
    rw [hd, ih]
    have hl : (joinC (a :: b :: r)).length = a.length + 2 + (joinC (b :: r)).length := by
      show (a ++ crS ++ joinC (b :: r)).length = _
      rw [List.length_append, List.length_append]; rfl
    have hne : (((joinC (b :: r)).length : Int) == -1) = false := by simp
    rw [hne, hl]
    simp only [Bool.false_eq_true, if_false]
    omega
theorem join_cons {a : List UInt8} : ∀ {r : List (List UInt8)}, r ≠ [] → joinC (a :: r) = a ++ crS ++ joinC r
  | [], h => absurd rfl h
  | _ :: _, _ => rfl

/-! ## The text -/
def getL0 (t : Nat) : List UInt8 := [71, 69, 84, 32] ++ List.replicate t 47 ++ [32, 72, 84, 84, 80, 47, 49, 46, 49]
def hostL : List UInt8 := [104, 111, 115, 116, 58, 32, 97]
def xyL : List UInt8 := [120, 58, 32, 121]
def clL (s : List UInt8) : List UInt8 := [99, 111, 110, 116, 101, 110, 116, 45, 108, 101, 110, 103, 116, 104, 58, 32] ++ s
def limL (t k d : Nat) : List (List UInt8) := getL0 t :: hostL :: (List.replicate k xyL ++ [clL (digE d)])
def limT (t k d : Nat) : List UInt8 := getL0 t ++ [13, 10] ++ hostL ++ [13, 10] ++ (List.replicate k (xyL ++ [13, 10])).flatten ++ clL (digE d) ++ crE
theorem join_xy (c : List UInt8) : ∀ k, joinC (List.replicate k xyL ++ [c]) = (List.replicate k (xyL ++ [13, 10])).flatten ++ c
  | 0 => rfl
  | k + 1 => by
    rw [List.replicate_succ, List.cons_append, join_cons (by simp), join_xy c k, List.replicate_succ, List.flatten_cons, List.append_assoc, List.append_assoc, List.append_assoc]; rfl
theorem lim_join (t k d : Nat) : limT t k d = joinC (limL t k d) ++ crE := by
  unfold limL limT
  rw [join_cons (by simp), join_cons (by simp), join_xy]
  simp only [crS, List.append_assoc]
theorem lim_lines (t k d : Nat) (hd : d ≤ 8200) : ∀ l ∈ limL t k d, Line l := by
  have h := dig_all hd
  unfold digT at h
  simp only [Bool.and_eq_true] at h
  have h13 : (13 : UInt8) ∉ digE d := fun hm => by
    have := List.all_eq_true.1 h.2 _ hm
    exact absurd (of_decide_eq_true this) (by decide)
  intro l hl
  unfold limL at hl
  simp only [List.mem_cons, List.mem_append, List.not_mem_nil, or_false] at hl
  rcases hl with rfl | rfl | hl | rfl
  · refine ⟨fun hm => ?_, by simp [getL0]⟩
    unfold getL0 at hm
    simp only [List.mem_append, List.mem_replicate] at hm
    rcases hm with (hm | hm) | hm
    · revert hm; decide
    · exact absurd hm.2 (by decide)
    · revert hm; decide
  · exact ⟨by decide, by decide⟩
  · rw [List.mem_replicate] at hl
    rw [hl.2]
    exact ⟨by decide, by decide⟩
  · refine ⟨fun hm => ?_, by simp [clL]⟩
    unfold clL at hm
    rcases List.mem_append.1 hm with hm | hm
    · revert hm; decide
    · exact h13 hm

/-! ## What is read of it -/
theorem no47 {t : Nat} {c : UInt8} (h : ¬ c = 47) : c ∉ List.replicate t (47 : UInt8) := fun hm => h (List.mem_replicate.1 hm).2
theorem un_47 : ∀ n : Nat, unS false (List.replicate n 47) = some (List.replicate n 47)
  | 0 => rfl
  | n + 1 => by rw [List.replicate_succ, un_one _ _ (by decide), un_47 n]; rfl
theorem get_split (t : Nat) : splitL 32 (getL0 t) = [[71, 69, 84], List.replicate t 47, verS] := by
  have e : getL0 t = [71, 69, 84] ++ 32 :: (List.replicate t 47 ++ 32 :: verS) := by simp [getL0, verS]
  rw [e, splitL_app _ (by decide), splitL_app _ (no47 (by decide)), splitL_no (by decide)]
theorem first_get {t : Nat} (h1 : 1 ≤ t) (h2 : t ≤ 2048) : firstS (getL0 t) = some ⟨[71, 69, 84], List.replicate t 47, []⟩ := by
  have hp : parseS [] = ([], 0) := by decide
  have h47 : allB 2048 seenB (List.replicate t 47) = true := by
    unfold allB
    rw [List.all_replicate, if_neg (by omega), List.length_replicate, decide_eq_true h1, decide_eq_true h2]
    decide
  have hh : (List.replicate t (47 : UInt8)).head? = some 47 := by rw [List.head?_replicate, if_neg (by omega)]
  unfold firstS
  rw [get_split]
  dsimp only
  rw [if_pos ⟨rfl, by decide, h47, hh⟩, cutW_no (no47 (by decide)), un_47]
  dsimp only
  rw [hp]; rfl
def hostP : PairS := ⟨hostN, [97]⟩
def xyP : PairS := ⟨[120], [121]⟩
theorem head_host : headerS hostL = some hostP := by decide
theorem head_xy : headerS xyL = some xyP := by decide
theorem head_cl {d : Nat} (hd : d ≤ 8200) : headerS (clL (digE d)) = some ⟨clenN, digE d⟩ := by
  have h := dig_all hd
  unfold digT at h
  simp only [Bool.and_eq_true, decide_eq_true_eq] at h
  obtain ⟨⟨⟨⟨⟨_, _⟩, h3⟩, h4⟩, _⟩, _⟩ := h
  have e : clL (digE d) = clenN ++ 58 :: (32 :: digE d) := rfl
  have hc := cutW_app (c := 58) (32 :: digE d) (a := clenN) (by decide)
  unfold headerS
  have h40 : allB 40 namedB clenN = true := by decide
  rw [e, hc, if_pos ⟨by simp, h40, .inr h4⟩, h3]
  rfl
theorem headers_xy (r : List (List UInt8)) : ∀ (k : Nat) (hs : List PairS), headersS hs (List.replicate k xyL ++ r) = headersS (hs ++ List.replicate k xyP) r
  | 0, hs => by rw [List.replicate_zero, List.replicate_zero, List.append_nil, List.nil_append]
  | k + 1, hs => by
    rw [List.replicate_succ, List.replicate_succ, List.cons_append]
    show (match headerS xyL with | some h => headersS (hs ++ [h]) (List.replicate k xyL ++ r) | none => (hs, false)) = _
    rw [head_xy]
    show headersS (hs ++ [xyP]) (List.replicate k xyL ++ r) = _
    rw [headers_xy r k, List.append_assoc]; rfl
theorem headers_lim {d : Nat} (hd : d ≤ 8200) (k : Nat) : headersS [] (hostL :: (List.replicate k xyL ++ [clL (digE d)])) = (hostP :: (List.replicate k xyP ++ [⟨clenN, digE d⟩]), true) := by
  show (match headerS hostL with | some h => headersS ([] ++ [h]) (List.replicate k xyL ++ [clL (digE d)]) | none => ([], false)) = _
  rw [head_host]
  show headersS [hostP] (List.replicate k xyL ++ [clL (digE d)]) = _
  rw [headers_xy]
  show (match headerS (clL (digE d)) with | some h => headersS ([hostP] ++ List.replicate k xyP ++ [h]) [] | none => ([hostP] ++ List.replicate k xyP, false)) = _
  rw [head_cl hd]
  rfl
theorem fold_xy (name : List UInt8) (h : ¬ [120] = name) (l : List PairS) : ∀ (k : Nat) (r : List UInt8 × Nat), (List.replicate k xyP ++ l).foldl (getF name) r = l.foldl (getF name) r
  | 0, r => rfl
  | k + 1, r => by
    show (List.replicate k xyP ++ l).foldl (getF name) (getF name r xyP) = _
    rw [fold_xy name h l k, show getF name r xyP = r from if_neg h]
theorem length_lim {d : Nat} (hd : d ≤ 8200) (k : Nat) : lengthS (hostP :: (List.replicate k xyP ++ [⟨clenN, digE d⟩])) = some (d : Int) := by
  have h := dig_all hd
  unfold digT at h
  simp only [Bool.and_eq_true, decide_eq_true_eq] at h
  obtain ⟨⟨⟨⟨⟨h1, h2⟩, _⟩, _⟩, _⟩, _⟩ := h
  have f1 : hdrF (hostP :: (List.replicate k xyP ++ [⟨clenN, digE d⟩])) hostN = ([97], 1) := fold_xy hostN (by decide) _ k _
  have f2 : hdrF (hostP :: (List.replicate k xyP ++ [⟨clenN, digE d⟩])) teN = ([], 0) := fold_xy teN (by decide) _ k _
  have f3 : hdrF (hostP :: (List.replicate k xyP ++ [⟨clenN, digE d⟩])) clenN = (digE d, 1) := fold_xy clenN (by decide) _ k _
  unfold lengthS hdrS
  rw [f1, f2, f3]
  simp [h1, h2]
theorem much_lim (t k d : Nat) (hd : d ≤ 8200) : muchS (limL t k d) = (decide (2048 < t + 13) || decide (30 < k)) := by
  have h := dig_all hd
  unfold digT at h
  simp only [Bool.and_eq_true, decide_eq_true_eq] at h
  have h5 := h.1.2
  have l1 : (getL0 t).length = t + 13 := by simp [getL0]
  have l2 : (clL (digE d)).length = 16 + (digE d).length := by unfold clL; rw [List.length_append]; rfl
  have l3 : (limL t k d).length = k + 3 := by simp [limL]
  unfold muchS
  rw [l3]
  unfold limL
  rw [List.any_cons, List.any_cons, List.any_append, List.any_replicate, List.any_cons, List.any_nil, l1, l2]
  have e1 : decide (2048 < hostL.length) = false := by decide
  have e2 : decide (2048 < xyL.length) = false := by decide
  have e3 : decide (2048 < 16 + (digE d).length) = false := by simp; omega
  have e4 : decide (33 < k + 3) = decide (30 < k) := by rw [decide_eq_decide]; omega
  rw [e1, e2, e3, e4]
  simp
theorem flatxy_len (k : Nat) : (List.replicate k (xyL ++ [13, 10])).flatten.length = 6 * k := by
  induction k with
  | zero => rfl
  | succ n ih => rw [List.replicate_succ, List.flatten_cons, List.length_append, ih]; show 6 + _ = _; omega
theorem lim_len (t k d : Nat) : (joinC (limL t k d)).length = t + 6 * k + (digE d).length + 40 := by
  have h := congrArg List.length (lim_join t k d)
  rw [List.length_append] at h
  have h2 : (limT t k d).length = t + 6 * k + (digE d).length + 44 := by
    unfold limT
    simp only [List.length_append, flatxy_len]
    simp [getL0, hostL, clL, crE]; omega
  have h3 : crE.length = 4 := rfl
  omega
theorem lim_law {t k d : Nat} (h1 : 1 ≤ t) (h2 : t ≤ 3000) (hk : k ≤ 40) (hd : d ≤ 8200) : (httpS (limT t k d ++ List.replicate d 0)).1 = if 2048 < t + 13 ∨ 30 < k ∨ 8192 < d then 5 else 0 := by
  have h := dig_all hd
  unfold digT at h
  simp only [Bool.and_eq_true, decide_eq_true_eq] at h
  have h5 := h.1.2
  have hne : limL t k d ≠ [] := by simp [limL]
  have hl := lim_lines t k d hd
  have hi := index_end (List.replicate d 0) hne hl
  have hn := lim_len t k d
  have ht : (joinC (limL t k d) ++ crE ++ List.replicate d 0).take (joinC (limL t k d)).length = joinC (limL t k d) := by rw [List.append_assoc]; exact List.take_left' rfl
  have hlen : (joinC (limL t k d) ++ crE ++ List.replicate d 0).length = (joinC (limL t k d)).length + 4 + d := by
    rw [List.length_append, List.length_append, List.length_replicate]; rfl
  rw [lim_join]
  unfold httpS
  rw [hi, if_neg (by omega), if_neg (by omega), Int.toNat_natCast, ht, hlen]
  unfold headR
  rw [split_join hne hl, much_lim t k d hd]
  by_cases hm : 2048 < t + 13 ∨ 30 < k
  · rw [if_pos (by simpa using hm), if_pos (by rcases hm with hm | hm <;> simp [hm])]
    rfl
  · rw [if_neg (by simpa using hm)]
    show (restS (match firstS (getL0 t) with | none => some none | some f => _) _).1 = _
    rw [first_get h1 (by omega)]
    dsimp only
    rw [headers_lim hd, if_pos rfl]
    dsimp only
    rw [length_lim hd]
    unfold restS
    dsimp only
    by_cases h8 : 8192 < d
    · rw [if_pos (by omega), if_pos (by omega)]
    · rw [if_neg (by omega), if_neg (by omega), if_neg (by omega), if_neg (by omega)]
end Go.Proofs.YtkhgmmejgikgnaaDoor
