/- Requests, plain: which request bytes are; each front is too short, more is a rest. No program here. -/
import Derived.Test.YtkhgmmejgikgnaaDoorRouE
import Derived.Lib.AtoiAll
import Derived.Lib.SlTrimSet
import Derived.Lib.Split
import Derived.Lib.SplitLaws
namespace Go.Proofs.YtkhgmmejgikgnaaDoor
open Go.RowKit

def crE : List UInt8 := [13, 10, 13, 10]
def crS : List UInt8 := [13, 10]
def verS : List UInt8 := [72, 84, 84, 80, 47, 49, 46, 49]
def hostN : List UInt8 := [104, 111, 115, 116]
def teN : List UInt8 := [116, 114, 97, 110, 115, 102, 101, 114, 45, 101, 110, 99, 111, 100, 105, 110, 103]
def clenN : List UInt8 := [99, 111, 110, 116, 101, 110, 116, 45, 108, 101, 110, 103, 116, 104]
def allB (most : Nat) (p : UInt8 → Bool) (s : List UInt8) : Bool := s.all p && (decide (1 ≤ s.length) && decide (s.length ≤ most))
def greatB (c : UInt8) : Bool := decide (65 ≤ c.toNat) && decide (c.toNat ≤ 90)
def digitB (c : UInt8) : Bool := decide (48 ≤ c.toNat) && decide (c.toNat ≤ 57)
def seenB (c : UInt8) : Bool := decide (33 ≤ c.toNat) && decide (c.toNat ≤ 126)
def namedB (c : UInt8) : Bool := greatB c || (decide (97 ≤ c.toNat) && decide (c.toNat ≤ 122)) || digitB c || decide (c.toNat = 45)
def valuedB (c : UInt8) : Bool := (decide (32 ≤ c.toNat) && decide (c.toNat ≤ 126)) || decide (c.toNat = 9)
def lowC (c : UInt8) : UInt8 := if greatB c = true then c + 32 else c
def muchS (l : List (List UInt8)) : Bool := l.any (fun s => decide (2048 < s.length)) || decide (33 < l.length)
structure FirstR where
  m : List UInt8
  p : List UInt8
  q : List PairS
def firstS (line : List UInt8) : Option FirstR :=
  match splitL 32 line with
  | [m, t, v] =>
    if v = verS ∧ allB 16 greatB m = true ∧ allB 2048 seenB t = true ∧ t.head? = some 47 then
      match unS false (cutW 63 t).1, parseS (cutW 63 t).2 with
      | some p, (q, 0) => some ⟨m, p, q⟩
      | _, _ => none
    else none
  | _ => none
def headerS (line : List UInt8) : Option PairS :=
  if 58 ∈ line ∧ allB 40 namedB (cutW 58 line).1 = true ∧ ((cutW 58 line).2 = [] ∨ allB 2048 valuedB (cutW 58 line).2 = true)
  then some ⟨(cutW 58 line).1.map lowC, Lib.trimS (cutW 58 line).2 [32, 9]⟩ else none
/-- All lines; once one is none, no more are read. -/
def headersS (hs : List PairS) : List (List UInt8) → List PairS × Bool
  | [] => (hs, true)
  | l :: r => match headerS l with | some h => headersS (hs ++ [h]) r | none => (hs, false)
def atoiN (s : List UInt8) : Option Int := match Lib.atoiAll s with | .ok v => some v | _ => none
def lengthS (hs : List PairS) : Option Int :=
  if ¬ (hdrF hs hostN).2 = 1 ∨ 0 < (hdrF hs teN).2 ∨ 1 < (hdrF hs clenN).2 then none
  else if (hdrS hs clenN).2 = false then some 0
  else match atoiN (hdrS hs clenN).1 with | some n => if allB 9 digitB (hdrS hs clenN).1 = true then some n else none | none => none
/-- What a head says: nothing (too much); nothing right; or a request, and its body's length. -/
def headR (s : List UInt8) : Option (Option (FirstR × List PairS × Int)) :=
  if muchS (Lib.split s crS) = true then none
  else match Lib.split s crS with
    | [] => none
    | a :: r => match firstS a with
      | none => some none
      | some f => if (headersS [] r).2 = true then match lengthS (headersS [] r).1 with | some n => some (some (f, (headersS [] r).1, n)) | none => some none else some none
def restS (h : Option (Option (FirstR × List PairS × Int))) (len : Int) : Int × Option FirstR :=
  match h with
  | none => (5, none)
  | some none => (4, none)
  | some (some (f, _, n)) => if 8192 < n then (5, none) else if len < n then (3, none) else if n < len then (6, none) else (0, some f)
def httpS (b : List UInt8) : Int × Option FirstR :=
  if Lib.index b crE < 0 then (if b.length ≤ 4099 then (3, none) else (5, none))
  else if 4096 < Lib.index b crE then (5, none)
  else restS (headR (b.take (Lib.index b crE).toNat)) ((b.length : Int) - (Lib.index b crE + 4))

/-! ## Fronts, rests -/
theorem occ_take {s sub : List UInt8} {i n : Nat} (h : i + sub.length ≤ n) : Lib.occAt (s.take n) sub i = Lib.occAt s sub i := by
  unfold Lib.occAt
  rw [Bool.eq_iff_iff, List.isPrefixOf_iff_prefix, List.isPrefixOf_iff_prefix, List.prefix_iff_eq_take, List.prefix_iff_eq_take, List.drop_take, List.take_take, Nat.min_eq_left (by omega)]
theorem occ_room {s sub : List UInt8} {i : Nat} (hs : sub ≠ []) (h : Lib.occAt s sub i = true) : i + sub.length ≤ s.length := by
  unfold Lib.occAt at h
  rw [List.isPrefixOf_iff_prefix] at h
  have := h.length_le
  have h0 : 0 < sub.length := List.length_pos_iff.2 hs
  rw [List.length_drop] at this; omega
theorem crE_ne : crE ≠ [] := by decide
theorem index_front {b : List UInt8} {i : Nat} (h : Lib.index b crE = i) {n : Nat} (hn : n ≤ b.length) : Lib.index (b.take n) crE = if i + 4 ≤ n then (i : Int) else -1 := by
  have hlen : (b.take n).length = n := by rw [List.length_take]; omega
  rcases Lib.index_spec b crE with ⟨h1, _⟩ | ⟨j, h1, h2, h3, h4⟩
  · omega
  · obtain rfl : i = j := by omega
    by_cases hi : i + 4 ≤ n
    · rw [if_pos hi]
      exact Lib.index_first (by omega) (by rw [occ_take (by show i + 4 ≤ n; omega)]; exact h3) fun j hj => by rw [occ_take (by show j + 4 ≤ n; omega)]; exact h4 j hj
    · rw [if_neg hi]
      refine Lib.index_none fun j _ => ?_
      rw [Bool.eq_false_iff]
      intro ho
      have hr := occ_room crE_ne ho
      rw [hlen] at hr
      have hr : j + 4 ≤ n := hr
      rw [occ_take (by show j + 4 ≤ n; omega)] at ho
      rw [h4 j (by omega)] at ho
      cases ho
theorem index_more {b : List UInt8} {i : Nat} (h : Lib.index b crE = i) (more : List UInt8) : Lib.index (b ++ more) crE = i := by
  have e : (b ++ more).take b.length = b := List.take_left' rfl
  rcases Lib.index_spec b crE with ⟨h1, _⟩ | ⟨j, h1, h2, h3, h4⟩
  · omega
  · obtain rfl : i = j := by omega
    have hr : i + 4 ≤ b.length := occ_room crE_ne h3
    refine Lib.index_first (by rw [List.length_append]; omega) ?_ fun j hj => ?_
    · rw [← occ_take (n := b.length) (by show i + 4 ≤ _; omega), e]; exact h3
    · rw [← occ_take (n := b.length) (by show j + 4 ≤ _; omega), e]; exact h4 j hj
/-- Of a request that is read: where its head ends; what its head says. -/
theorem http_ok {b : List UInt8} (h : (httpS b).1 = 0) : ∃ (i : Nat) (f : FirstR) (hs : List PairS), Lib.index b crE = i ∧ i ≤ 4096 ∧ i + 4 ≤ b.length ∧ headR (b.take i) = some (some (f, hs, (b.length : Int) - (i + 4))) ∧ (b.length : Int) - (i + 4) ≤ 8192 := by
  unfold httpS at h
  split at h
  · split at h <;> cases h
  · rename_i h0
    split at h
    · cases h
    · rename_i h1
      obtain ⟨i, hi⟩ : ∃ i : Nat, Lib.index b crE = i := ⟨(Lib.index b crE).toNat, by omega⟩
      have hr := Lib.index_room b crE (by omega)
      rw [hi] at h h1 hr
      rw [Int.toNat_natCast] at h
      have hr : (i : Int) + 4 ≤ b.length := hr
      refine ⟨i, ?_⟩
      unfold restS at h
      split at h
      · cases h
      · cases h
      · rename_i f hs n hh
        split at h
        · cases h
        · split at h
          · cases h
          · split at h
            · cases h
            · exact ⟨f, hs, hi, by omega, by omega, by rw [hh, show n = (b.length : Int) - (i + 4) by omega], by omega⟩
theorem http_front {b : List UInt8} (h : (httpS b).1 = 0) {n : Nat} (hn : n < b.length) : (httpS (b.take n)).1 = 3 := by
  obtain ⟨i, f, hs, hi, h1, h2, h3, h4⟩ := http_ok h
  have hf := index_front hi (n := n) (by omega)
  have hlen : (b.take n).length = n := by rw [List.length_take]; omega
  unfold httpS
  rw [hf, hlen]
  by_cases hin : i + 4 ≤ n
  · rw [if_pos hin, if_neg (by omega), if_neg (by omega), Int.toNat_natCast, List.take_take, Nat.min_eq_left (by omega), h3]
    unfold restS
    dsimp only
    rw [if_neg (by omega), if_pos (by omega)]
  · rw [if_neg hin, if_pos (by decide), if_pos (by omega)]
theorem http_rest {b : List UInt8} (h : (httpS b).1 = 0) {more : List UInt8} (hm : more ≠ []) : (httpS (b ++ more)).1 = 6 := by
  obtain ⟨i, f, hs, hi, h1, h2, h3, h4⟩ := http_ok h
  have h0 : 0 < more.length := List.length_pos_iff.2 hm
  unfold httpS
  rw [index_more hi more, if_neg (by omega), if_neg (by omega), Int.toNat_natCast, List.take_append_of_le_length (by omega), h3, List.length_append]
  unfold restS
  dsimp only
  rw [if_neg (by omega), if_neg (by omega), if_pos (by omega)]
end Go.Proofs.YtkhgmmejgikgnaaDoor
