/- Texts of this proof, one behind the other: HttL HttA HttB HttC HttD HttE. No statement of the seat is proved here. -/
import Derived.Test.YtkhgmmejgikgnaaDoorGR
import Derived.Lib.AtoiAll
import Derived.Lib.SlTrimSet
import Derived.Lib.Split
import Derived.Lib.SplitLaws
import Derived.Test.YtkhgmmejgikgnaaDoorGC
import Derived.Test.YtkhgmmejgikgnaaDoorShelfH
import Derived.Shelf.Strings.SlTrimAscii
import Derived.WalkKit
import Derived.Lib.Walk
import Derived.Lib.ConvBytes
import Derived.Laws.IdiomStrings
import Derived.LoopTactic
import Derived.Laws.Entries
import Derived.WideLaws

/- Requests, plain: which request bytes are; each front is too short, more is a rest. No program here. -/
namespace Go.Proofs.YtkhgmmejgikgnaaDoor
open Go.RowKit

def crE : List UInt8 := [13, 10, 13, 10]
def crS : List UInt8 := [13, 10]
def verS : List UInt8 := [72, 84, 84, 80, 47, 49, 46, 49]
def hostN : List UInt8 := [104, 111, 115, 116]
def teN : List UInt8 := [116, 114, 97, 110, 115, 102, 101, 114, 45, 101, 110, 99, 111, 100, 105, 110, 103]
def clenN : List UInt8 := [99, 111, 110, 116, 101, 110, 116, 45, 108, 101, 110, 103, 116, 104]
def allB (most : Nat) (p : UInt8 → Bool) (s : List UInt8) : Bool := s.all p && (decide (1 ≤ s.length) && decide (s.length ≤ most))
def greatB (c : UInt8) : Bool := decide (65 ≤ c.toNat) && decide (c.toNat ≤ 90)
def digitB (c : UInt8) : Bool := decide (48 ≤ c.toNat) && decide (c.toNat ≤ 57)
def seenB (c : UInt8) : Bool := decide (33 ≤ c.toNat) && decide (c.toNat ≤ 126)
def namedB (c : UInt8) : Bool := greatB c || (decide (97 ≤ c.toNat) && decide (c.toNat ≤ 122)) || digitB c || decide (c.toNat = 45)
def valuedB (c : UInt8) : Bool := (decide (32 ≤ c.toNat) && decide (c.toNat ≤ 126)) || decide (c.toNat = 9)
def lowC (c : UInt8) : UInt8 := if greatB c = true then c + 32 else c
def muchS (l : List (List UInt8)) : Bool := l.any (fun s => decide (2048 < s.length)) || decide (33 < l.length)
structure FirstR where
  m : List UInt8
  p : List UInt8
  q : List PairS
def firstS (line : List UInt8) : Option FirstR :=
  match splitL 32 line with
  | [m, t, v] =>
    if v = verS ∧ allB 16 greatB m = true ∧ allB 2048 seenB t = true ∧ t.head? = some 47 then
      match unS false (cutW 63 t).1, parseS (cutW 63 t).2 with
      | some p, (q, 0) => some ⟨m, p, q⟩
      | _, _ => none
    else none
  | _ => none
def headerS (line : List UInt8) : Option PairS :=
  if 58 ∈ line ∧ allB 40 namedB (cutW 58 line).1 = true ∧ ((cutW 58 line).2 = [] ∨ allB 2048 valuedB (cutW 58 line).2 = true)
  then some ⟨(cutW 58 line).1.map lowC, Lib.trimS (cutW 58 line).2 [32, 9]⟩ else none
/-- All lines; once one is none, no more are read. -/
def headersS (hs : List PairS) : List (List UInt8) → List PairS × Bool
  | [] => (hs, true)
  | l :: r => match headerS l with | some h => headersS (hs ++ [h]) r | none => (hs, false)
def atoiN (s : List UInt8) : Option Int := match Lib.atoiAll s with | .ok v => some v | _ => none
def lengthS (hs : List PairS) : Option Int :=
  if ¬ (hdrF hs hostN).2 = 1 ∨ 0 < (hdrF hs teN).2 ∨ 1 < (hdrF hs clenN).2 then none
  else if (hdrS hs clenN).2 = false then some 0
  else match atoiN (hdrS hs clenN).1 with | some n => if allB 9 digitB (hdrS hs clenN).1 = true then some n else none | none => none
/-- What a head says: nothing (too much); nothing right; or a request, and its body's length. -/
def headR (s : List UInt8) : Option (Option (FirstR × List PairS × Int)) :=
  if muchS (Lib.split s crS) = true then none
  else match Lib.split s crS with
    | [] => none
    | a :: r => match firstS a with
      | none => some none
      | some f => if (headersS [] r).2 = true then match lengthS (headersS [] r).1 with | some n => some (some (f, (headersS [] r).1, n)) | none => some none else some none
def restS (h : Option (Option (FirstR × List PairS × Int))) (len : Int) : Int × Option FirstR :=
  match h with
  | none => (5, none)
  | some none => (4, none)
  | some (some (f, _, n)) => if 8192 < n then (5, none) else if len < n then (3, none) else if n < len then (6, none) else (0, some f)
def httpS (b : List UInt8) : Int × Option FirstR :=
  if Lib.index b crE < 0 then (if b.length ≤ 4099 then (3, none) else (5, none))
  else if 4096 < Lib.index b crE then (5, none)
  else restS (headR (b.take (Lib.index b crE).toNat)) ((b.length : Int) - (Lib.index b crE + 4))

/-! ## Fronts, rests -/
theorem occ_take {s sub : List UInt8} {i n : Nat} (h : i + sub.length ≤ n) : Lib.occAt (s.take n) sub i = Lib.occAt s sub i := by
  unfold Lib.occAt
  rw [Bool.eq_iff_iff, List.isPrefixOf_iff_prefix, List.isPrefixOf_iff_prefix, List.prefix_iff_eq_take, List.prefix_iff_eq_take, List.drop_take, List.take_take, Nat.min_eq_left (by omega)]
theorem occ_room {s sub : List UInt8} {i : Nat} (hs : sub ≠ []) (h : Lib.occAt s sub i = true) : i + sub.length ≤ s.length := by
  unfold Lib.occAt at h
  rw [List.isPrefixOf_iff_prefix] at h
  have := h.length_le
  have h0 : 0 < sub.length := List.length_pos_iff.2 hs
  rw [List.length_drop] at this; omega
theorem crE_ne : crE ≠ [] := by decide
theorem index_front {b : List UInt8} {i : Nat} (h : Lib.index b crE = i) {n : Nat} (hn : n ≤ b.length) : Lib.index (b.take n) crE = if i + 4 ≤ n then (i : Int) else -1 := by
  have hlen : (b.take n).length = n := by rw [List.length_take]; omega
  rcases Lib.index_spec b crE with ⟨h1, _⟩ | ⟨j, h1, h2, h3, h4⟩
  · omega
  · obtain rfl : i = j := by omega
    by_cases hi : i + 4 ≤ n
    · rw [if_pos hi]
      exact Lib.index_first (by omega) (by rw [occ_take (by show i + 4 ≤ n; omega)]; exact h3) fun j hj => by rw [occ_take (by show j + 4 ≤ n; omega)]; exact h4 j hj
    · rw [if_neg hi]
      refine Lib.index_none fun j _ => ?_
      rw [Bool.eq_false_iff]
      intro ho
      have hr := occ_room crE_ne ho
      rw [hlen] at hr
      have hr : j + 4 ≤ n := hr
      rw [occ_take (by show j + 4 ≤ n; omega)] at ho
      rw [h4 j (by omega)] at ho
      cases ho
theorem index_more {b : List UInt8} {i : Nat} (h : Lib.index b crE = i) (more : List UInt8) : Lib.index (b ++ more) crE = i := by
  have e : (b ++ more).take b.length = b := List.take_left' rfl
  rcases Lib.index_spec b crE with ⟨h1, _⟩ | ⟨j, h1, h2, h3, h4⟩
  · omega
  · obtain rfl : i = j := by omega
    have hr : i + 4 ≤ b.length := occ_room crE_ne h3
    refine Lib.index_first (by rw [List.length_append]; omega) ?_ fun j hj => ?_
    · rw [← occ_take (n := b.length) (by show i + 4 ≤ _; omega), e]; exact h3
    · rw [← occ_take (n := b.length) (by show j + 4 ≤ _; omega), e]; exact h4 j hj
/-- Of a request that is read: where its head ends; what its head says. -/
theorem http_ok {b : List UInt8} (h : (httpS b).1 = 0) : ∃ (i : Nat) (f : FirstR) (hs : List PairS), Lib.index b crE = i ∧ i ≤ 4096 ∧ i + 4 ≤ b.length ∧ headR (b.take i) = some (some (f, hs, (b.length : Int) - (i + 4))) ∧ (b.length : Int) - (i + 4) ≤ 8192 := by
  unfold httpS at h
  split at h
  · split at h <;> cases h
  · rename_i h0
    split at h
    · cases h
    · rename_i h1
      obtain ⟨i, hi⟩ : ∃ i : Nat, Lib.index b crE = i := ⟨(Lib.index b crE).toNat, by omega⟩
      have hr := Lib.index_room b crE (by omega)
      rw [hi] at h h1 hr
      rw [Int.toNat_natCast] at h
      have hr : (i : Int) + 4 ≤ b.length := hr
      refine ⟨i, ?_⟩
      unfold restS at h
      split at h
      · cases h
      · cases h
      · rename_i f hs n hh
        split at h
        · cases h
        · split at h
          · cases h
          · split at h
            · cases h
            · exact ⟨f, hs, hi, by omega, by omega, by rw [hh, show n = (b.length : Int) - (i + 4) by omega], by omega⟩
theorem http_front {b : List UInt8} (h : (httpS b).1 = 0) {n : Nat} (hn : n < b.length) : (httpS (b.take n)).1 = 3 := by
  obtain ⟨i, f, hs, hi, h1, h2, h3, h4⟩ := http_ok h
  have hf := index_front hi (n := n) (by omega)
  have hlen : (b.take n).length = n := by rw [List.length_take]; omega
  unfold httpS
  rw [hf, hlen]
  by_cases hin : i + 4 ≤ n
  · rw [if_pos hin, if_neg (by omega), if_neg (by omega), Int.toNat_natCast, List.take_take, Nat.min_eq_left (by omega), h3]
    unfold restS
    dsimp only
    rw [if_neg (by omega), if_pos (by omega)]
  · rw [if_neg hin, if_pos (by decide), if_pos (by omega)]
theorem http_rest {b : List UInt8} (h : (httpS b).1 = 0) {more : List UInt8} (hm : more ≠ []) : (httpS (b ++ more)).1 = 6 := by
  obtain ⟨i, f, hs, hi, h1, h2, h3, h4⟩ := http_ok h
  have h0 : 0 < more.length := List.length_pos_iff.2 hm
  unfold httpS
  rw [index_more hi more, if_neg (by omega), if_neg (by omega), Int.toNat_natCast, List.take_append_of_le_length (by omega), h3, List.length_append]
  unfold restS
  dsimp only
  rw [if_neg (by omega), if_neg (by omega), if_pos (by omega)]
end Go.Proofs.YtkhgmmejgikgnaaDoor

/- Requests, walked: kinds of bytes; texts of a kind; texts cut, trimmed; numbers. -/
namespace Go.Proofs.YtkhgmmejgikgnaaDoor
open Go.RowKit

theorem great_x (c : UInt8) (W : PW) : CallsX Tryd.prog 100 ⟨[.int .u8 c.toNat]⟩ [] W fun v _ => v = .bool (greatB c) := by
  refine pureX hmix Tryd.func100 r100 (by kernel_rfl) [.int .u8 c.toNat] rfl ?_
  unfold greatB
  refine ⟨rfl, br_split (fun h1 => ?_) (fun h1 => ?_)⟩
  · have h1 : (65 : Int) ≤ (c.toNat : Int) := h1
    refine ⟨rfl, ret_plain rfl fun _ _ => ?_⟩
    rw [decide_eq_true (show 65 ≤ c.toNat by omega), Bool.true_and]
    exact congrArg Value.bool (decide_eq_decide.2 ⟨fun h => by omega, fun h => by omega⟩)
  · have h1 : ¬ (65 : Int) ≤ (c.toNat : Int) := h1
    exact ret_plain rfl fun _ _ => by rw [decide_eq_false (show ¬ 65 ≤ c.toNat by omega)]; (first | done | rfl)
theorem digitk_x (c : UInt8) (W : PW) : CallsX Tryd.prog 108 ⟨[.int .u8 c.toNat]⟩ [] W fun v _ => v = .bool (digitB c) := by
  refine pureX hmix Tryd.func108 r108 (by kernel_rfl) [.int .u8 c.toNat] rfl ?_
  unfold digitB
  refine ⟨rfl, br_split (fun h1 => ?_) (fun h1 => ?_)⟩
  · have h1 : (48 : Int) ≤ (c.toNat : Int) := h1
    refine ⟨rfl, ret_plain rfl fun _ _ => ?_⟩
    rw [decide_eq_true (show 48 ≤ c.toNat by omega), Bool.true_and]
    exact congrArg Value.bool (decide_eq_decide.2 ⟨fun h => by omega, fun h => by omega⟩)
  · have h1 : ¬ (48 : Int) ≤ (c.toNat : Int) := h1
    exact ret_plain rfl fun _ _ => by rw [decide_eq_false (show ¬ 48 ≤ c.toNat by omega)]; (first | done | rfl)
theorem seen_x (c : UInt8) (W : PW) : CallsX Tryd.prog 101 ⟨[.int .u8 c.toNat]⟩ [] W fun v _ => v = .bool (seenB c) := by
  refine pureX hmix Tryd.func101 r101 (by kernel_rfl) [.int .u8 c.toNat] rfl ?_
  unfold seenB
  refine ⟨rfl, br_split (fun h1 => ?_) (fun h1 => ?_)⟩
  · have h1 : (33 : Int) ≤ (c.toNat : Int) := h1
    refine ⟨rfl, ret_plain rfl fun _ _ => ?_⟩
    rw [decide_eq_true (show 33 ≤ c.toNat by omega), Bool.true_and]
    exact congrArg Value.bool (decide_eq_decide.2 ⟨fun h => by omega, fun h => by omega⟩)
  · have h1 : ¬ (33 : Int) ≤ (c.toNat : Int) := h1
    exact ret_plain rfl fun _ _ => by rw [decide_eq_false (show ¬ 33 ≤ c.toNat by omega)]; (first | done | rfl)
theorem valued_x (c : UInt8) (W : PW) : CallsX Tryd.prog 103 ⟨[.int .u8 c.toNat]⟩ [] W fun v _ => v = .bool (valuedB c) := by
  refine pureX hmix Tryd.func103 r103 (by kernel_rfl) [.int .u8 c.toNat] rfl ?_
  unfold valuedB
  have last : (fun v (_ : PW) => v = Value.bool (decide (c.toNat = 9))) (.bool (decide ((c.toNat : Int) = 9))) W := congrArg Value.bool (decide_eq_decide.2 ⟨fun h => by omega, fun h => by omega⟩)
  refine ⟨rfl, br_split (fun h1 => ?_) (fun h1 => ?_)⟩
  · have h1 : (32 : Int) ≤ (c.toNat : Int) := h1
    refine ⟨rfl, br_split (fun h2 => ?_) (fun h2 => ?_)⟩
    · have h2 : (c.toNat : Int) ≤ 126 := h2
      exact ret_plain rfl fun _ _ => by rw [decide_eq_true (show 32 ≤ c.toNat by omega), decide_eq_true (show c.toNat ≤ 126 by omega)]; (first | done | rfl)
    · have h2 : ¬ (c.toNat : Int) ≤ 126 := h2
      refine ⟨rfl, ret_plain rfl fun _ _ => ?_⟩
      rw [decide_eq_false (show ¬ c.toNat ≤ 126 by omega), Bool.and_false, Bool.false_or]; exact last
  · have h1 : ¬ (32 : Int) ≤ (c.toNat : Int) := h1
    refine ⟨rfl, ret_plain rfl fun _ _ => ?_⟩
    rw [decide_eq_false (show ¬ 32 ≤ c.toNat by omega), Bool.false_and, Bool.false_or]; exact last
theorem named_x (c : UInt8) (W : PW) : CallsX Tryd.prog 102 ⟨[.int .u8 c.toNat]⟩ [] W fun v _ => v = .bool (namedB c) := by
  refine pureX hmix Tryd.func102 r102 (by kernel_rfl) [.int .u8 c.toNat] rfl ?_
  refine call_v rfl (fun W' _ => great_x c W') (fun W1 v W2 l1 l2 hv => ?_)
  unfold namedB
  obtain ⟨g, hg, rfl⟩ : ∃ g, greatB c = g ∧ v = .bool g := ⟨_, rfl, hv⟩
  rw [hg]
  have dig : ∀ W', CallsX Tryd.prog 108 ⟨[.int .u8 c.toNat]⟩ [] W' fun v _ => v = .bool (digitB c) := fun W' => digitk_x c W'
  obtain ⟨d, hd⟩ : ∃ d, digitB c = d := ⟨_, rfl⟩
  rw [hd] at dig ⊢
  have last : Value.bool (decide ((c.toNat : Int) = 45)) = Value.bool (decide (c.toNat = 45)) := congrArg Value.bool (decide_eq_decide.2 ⟨fun h => by omega, fun h => by omega⟩)
  apply br_bool
  · intro h
    subst h
    exact ret_plain rfl fun _ _ => rfl
  intro h
  subst h
  refine ⟨rfl, br_split (fun h1 => ?_) (fun h1 => ?_)⟩
  · have h1 : (97 : Int) ≤ (c.toNat : Int) := h1
    refine ⟨rfl, br_split (fun h2 => ?_) (fun h2 => ?_)⟩
    · have h2 : (c.toNat : Int) ≤ 122 := h2
      exact ret_plain rfl fun _ _ => by rw [decide_eq_true (show 97 ≤ c.toNat by omega), decide_eq_true (show c.toNat ≤ 122 by omega)]; (first | done | rfl)
    · have h2 : ¬ (c.toNat : Int) ≤ 122 := h2
      refine call_v rfl (fun W' _ => dig W') (fun W3 v W4 l3 l4 hv => ?_)
      subst hv
      apply br_bool
      · intro h; subst h
        exact ret_plain rfl fun _ _ => by rw [Bool.or_true]; (first | done | rfl)
      · intro h; subst h
        refine ⟨rfl, ret_plain rfl fun _ _ => ?_⟩
        rw [decide_eq_false (show ¬ c.toNat ≤ 122 by omega), Bool.and_false]
        exact last
  · have h1 : ¬ (97 : Int) ≤ (c.toNat : Int) := h1
    refine call_v rfl (fun W' _ => dig W') (fun W3 v W4 l3 l4 hv => ?_)
    subst hv
    apply br_bool
    · intro h; subst h
      exact ret_plain rfl fun _ _ => by rw [Bool.or_true]; (first | done | rfl)
    · intro h; subst h
      refine ⟨rfl, ret_plain rfl fun _ _ => ?_⟩
      rw [decide_eq_false (show ¬ 97 ≤ c.toNat by omega), Bool.false_and]
      exact last
theorem br_nsplit' {b : Bool} {X Y : Prop} (h1 : b = false → X) (h2 : b = true → Y) : Branch X Y (!b) := by
  cases b
  · exact h1 rfl
  · exact h2 rfl
def fnV (f : FuncId) : Value := .func (.func f) #[] #[]
set_option maxHeartbeats 1000000 in
theorem all_x (s : List UInt8) (most : Nat) (f : FuncId) (p : UInt8 → Bool) (hp : ∀ c W', CallsX Tryd.prog f ⟨[.int .u8 (c : UInt8).toNat]⟩ [] W' fun v _ => v = .bool (p c)) (hs : s.length ≤ 1000000) (W : PW) :
    CallsX Tryd.prog 99 ⟨[strV s, .int .i64 most, fnV f]⟩ [] W fun v _ => v = .bool (allB most p s) := by
  refine pureX hmix Tryd.func99 r99 (by kernel_rfl) [strV s, .int .i64 most, fnV f] rfl ?_
  refine ⟨Nat, fun i => [(10, .v (.int .i64 i))], fun _ => [], fun _ => [], fun i _ => i ≤ s.length ∧ (s.take i).all p = true, fun i => s.length - i, 0,
    all_sl ⟨rfl, trivial⟩, rfl, ole_refl _, ⟨Nat.zero_le _, rfl⟩, loopOK (fun _ => ⟨⟨trivial, rfl⟩, trivial⟩) (fun _ => rfl) (fun _ => rfl), ?_⟩
  rintro i W5 l5 ⟨hi, hI⟩ fr
  refine ⟨rfl, br_split (fun hq => ?_) (fun hq => ?_)⟩
  · have hq : (i : Int) < s.length := hq
    obtain ⟨x, hx⟩ := at_q (s := s) (i := i) (by omega)
    have hpx : ∀ W', CallsX Tryd.prog f ⟨[.int .u8 (byteAt s (i : Int).toNat)]⟩ [] W' fun v _ => v = .bool (p x) := fun W' => by
      have := hp x W'
      rw [show byteAt s (i : Int).toNat = x.toNat from byteAt_get hx]; exact this
    refine ⟨⟨by omega, hq⟩, ?_⟩
    refine call_v rfl (fun W' _ => hpx W') (fun W1 v W2 l1 l2 hv => ?_)
    have hst : (s.take (i + 1)).all p = p x := by rw [take_snoc hx, List.all_append, hI]; simp
    obtain ⟨b, hb, rfl⟩ : ∃ b, p x = b ∧ v = .bool b := ⟨_, rfl, hv⟩
    rw [hb] at hst
    refine br_nsplit' ?_ ?_
    · intro h
      subst h
      refine ret_plain rfl fun _ _ => ?_
      have : s.all p = false := by
        rw [Bool.eq_false_iff]
        intro ha
        rw [List.all_eq_true] at ha
        have := ha x (List.mem_of_getElem? hx)
        rw [hb] at this; cases this
      unfold allB
      rw [this]; (first | done | rfl)
    · intro h
      subst h
      exact ⟨rfl, _, (i64_in ((i : Int) + 1) ⟨by omega, by omega⟩).symm, i + 1, all_sl ⟨rfl, trivial⟩, rfl, ole_refl _, ⟨by omega, hst⟩, by show s.length - (i + 1) < s.length - i; omega⟩
  · have hq : ¬ (i : Int) < s.length := hq
    rw [List.take_of_length_le (by omega)] at hI
    unfold allB
    rw [hI, Bool.true_and]
    refine ⟨rfl, br_split (fun h1 => ?_) (fun h1 => ?_)⟩
    · have h1 : (1 : Int) ≤ (s.length : Int) := h1
      refine ⟨rfl, ret_plain rfl fun _ _ => ?_⟩
      rw [decide_eq_true (show 1 ≤ s.length by omega), Bool.true_and]
      show Value.bool (decide ((s.length : Int) ≤ (most : Int))) = Value.bool (decide (s.length ≤ most))
      exact congrArg Value.bool (decide_eq_decide.2 ⟨fun h => by omega, fun h => by omega⟩)
    · have h1 : ¬ (1 : Int) ≤ (s.length : Int) := h1
      exact ret_plain rfl fun _ _ => by rw [decide_eq_false (show ¬ 1 ≤ s.length by omega)]; (first | done | rfl)
end Go.Proofs.YtkhgmmejgikgnaaDoor

/- Requests, walked: a name in small letters (by the kit's walk: it writes to the bytes of a text). -/
namespace Go.Proofs.YtkhgmmejgikgnaaDoor
open Go.RowKit Go.Lib

def lowI (n : Int) : Int := if 65 ≤ n ∧ n ≤ 90 then n + 32 else n
def LowW (s : ByteArray) (w : World) (g : Nat) (w' : World) (i : Nat) : Prop :=
  Below w.heap.size w w' ∧ ∀ j, j < s.size → w'.frozen? ⟨g, j, none⟩ = false ∧ w'.cell? ⟨g, j, none⟩ = some (.int .u8 (if j < i then lowI (s.data.toList.getD j 0).toNat else (s.data.toList.getD j 0).toNat))
theorem low_byte (c : UInt8) : lowI c.toNat = ((lowC c).toNat : Int) :=
  byte_all (p := fun c => lowI c.toNat = ((lowC c).toNat : Int)) (by decide +kernel) c
theorem low_step {s : ByteArray} {w wr : World} {i : Nat} (h : LowW s w w.heap.size wr i) (hi : i < s.size) (u : Int) (hu : u = lowI (s.data.toList.getD i 0).toNat) : LowW s w w.heap.size (wr.setCell ⟨w.heap.size, i, none⟩ (.int .u8 u)) (i + 1) := by
  obtain ⟨hb, hc⟩ := h
  refine ⟨hb.setCell (Nat.le_refl _) _, fun j hj => ⟨by rw [World.frozen?_setCell]; exact (hc j hj).1, ?_⟩⟩
  by_cases hji : j = i
  · subst hji
    rw [World.cell?_setCell_same _ _ _ (hc j hj).2, if_pos (Nat.lt_succ_self j), hu]
  · rw [World.cell?_setCell_other _ _ _ _ (fun e => hji (by injection e with _ e2 _; exact e2.symm)), (hc j hj).2]
    by_cases hlt : j < i
    · rw [if_pos hlt, if_pos (by omega)]
    · rw [if_neg hlt, if_neg (by omega)]
theorem low_skip {s : ByteArray} {w wr : World} {i : Nat} (h : LowW s w w.heap.size wr i) (hu : ((s.data.toList.getD i 0).toNat : Int) = lowI (s.data.toList.getD i 0).toNat) : LowW s w w.heap.size wr (i + 1) := by
  obtain ⟨hb, hc⟩ := h
  refine ⟨hb, fun j hj => ⟨(hc j hj).1, ?_⟩⟩
  rw [(hc j hj).2]
  by_cases hji : j = i
  · subst hji
    rw [if_neg (Nat.lt_irrefl j), if_pos (Nat.lt_succ_self j)]
    exact congrArg (fun z => some (Value.int .u8 z)) hu
  · by_cases hlt : j < i
    · rw [if_pos hlt, if_pos (by omega)]
    · rw [if_neg hlt, if_neg (by omega)]
set_option maxHeartbeats 4000000 in
set_option maxRecDepth 1000000 in
theorem lowRun (s : ByteArray) (hs : s.size ≤ 1000000) (w : World) : Calls Tryd.prog 104 #[.string s] w fun e w' => e = .returned (.string ⟨(s.data.toList.map lowC).toArray⟩) ∧ Below w.heap.size w w' := by
  have hconv := Go.Lib.run_convert_string_bytes (P := Tryd.prog) w 9 33 5 s Tryd.underlying9 Tryd.underlying33 Tryd.underlying5
  have hW : LowW s w w.heap.size (Go.Lib.bytesWorld w 5 s) 0 := by
    refine ⟨⟨rfl, rfl, rfl, by rw [Go.Lib.bytesWorld_size]; exact Nat.le_succ _, fun k hk => Go.Lib.bytesWorld_at_old w _ s k hk⟩, fun j hj => ⟨?_, ?_⟩⟩
    · unfold World.frozen?
      rw [Go.Lib.bytesWorld_at_new]
      have hsz : j < (Go.Lib.bytesCells w 5 s).size := by
        have : s.size = s.data.size := rfl
        unfold Go.Lib.bytesCells
        rw [Array.size_append, Array.size_map]; omega
      simp; omega
    · rw [Go.Lib.bytesWorld_cell w _ s j hj, if_neg (Nat.not_lt_zero _)]
  generalize Go.Lib.bytesWorld w 5 s = w0 at hconv hW
  generalize grownCap w s.size 0 5 = cap at hconv
  go_enter Tryd.func104, Tryd.ntmps104
  go_wp2
  go_loopw [10] (fun v w' => ∃ i : Nat, v = .int .i64 i ∧ i ≤ s.size ∧ LowW s w w.heap.size w' i) (fun v _ => s.size - (Go.RowKit.intOf v).toNat)
  case atStart => exact ⟨0, rfl, Nat.zero_le _, hW⟩
  case round =>
    obtain ⟨i, rfl, hi, hb, hc⟩ := hrel
    by_cases hq : i < s.size
    · obtain ⟨hf, hci⟩ := hc i hq
      rw [if_neg (Nat.lt_irrefl i)] at hci
      have hq1 : (i : Int) < (s.size : Int) := by omega
      have hd : s.data[i].toNat = (s.data.toList.getD i 0).toNat := by
        rw [List.getD_eq_getElem?_getD, Array.getElem?_toList, Array.getElem?_eq_getElem hq]; (first | done | rfl)
      go_wp2
      all_goals (refine ⟨⟨i + 1, rfl, hq, ?_⟩, by show s.size - (i + 1) < s.size - i; omega⟩)
      · refine low_step ⟨hb, hc⟩ hq _ ?_
        unfold lowI
        rw [if_pos (by omega)]; omega
      · refine low_skip ⟨hb, hc⟩ ?_
        unfold lowI
        rw [if_neg (by omega)]
      · refine low_skip ⟨hb, hc⟩ ?_
        unfold lowI
        rw [if_neg (by omega)]
    · have hq1 : ¬ (i : Int) < (s.size : Int) := by omega
      obtain rfl : i = s.size := by omega
      have hlen : (s.data.toList.map lowC).length = s.size := List.length_map _
      have hback : (convert 33 9 (.slice (some ⟨w.heap.size, 0, none⟩) s.size cap)).run Tryd.prog wr = .ok (.string ⟨(s.data.toList.map lowC).toArray⟩) wr := by
        rw [← hlen]
        refine run_convert_bytes_back wr 33 9 5 ⟨w.heap.size, 0, none⟩ cap (s.data.toList.map lowC) Tryd.underlying33 Tryd.underlying5 Tryd.underlying9 fun j hj => ?_
        have hj' : j < s.size := by rw [← hlen]; exact hj
        obtain ⟨_, hcj⟩ := hc j hj'
        rw [if_pos hj', low_byte] at hcj
        rw [Go.WideShapes.add_plain, Nat.zero_add, hcj]
        have e : (s.data.toList.map lowC)[j] = lowC (s.data.toList.getD j 0) := by
          rw [List.getElem_map, List.getD_eq_getElem?_getD, List.getElem?_eq_getElem (by rw [List.length_map] at hj; exact hj)]; (first | done | rfl)
        rw [e]
      go_wp2
      go_ret
      exact ⟨rfl, hb⟩
theorem lower_x (l : List UInt8) (hl : l.length ≤ 1000000) (W : PW) : CallsX Tryd.prog 104 ⟨[strV l]⟩ [] W fun v _ => v = strV (l.map lowC) :=
  CallsX.of_at k104 (lowRun ⟨⟨l⟩⟩ hl W.w)
end Go.Proofs.YtkhgmmejgikgnaaDoor

/- Requests, walked: texts cut and trimmed; numbers; too much. -/
namespace Go.Proofs.YtkhgmmejgikgnaaDoor
open Go.RowKit

theorem splitg_x (s sep : List UInt8) (hsep : sep ≠ []) (hs : s.length ≤ 1000000) (W : PW) (h : HM W) : CallsX Tryd.prog 57 ⟨[strV s, strV sep]⟩ [] W fun v W' => RP sC W' v (Lib.split s sep) := by
  obtain ⟨m, _, hm⟩ := h
  have h1 : 1 ≤ (⟨⟨sep⟩⟩ : ByteArray).size := List.length_pos_iff.2 hsep
  have hsz : (⟨⟨s⟩⟩ : ByteArray).size = s.length := rfl
  have hd : (Lib.splitB ⟨⟨sep⟩⟩ 0 (Lib.countB ⟨⟨s⟩⟩ ⟨⟨sep⟩⟩) ⟨⟨s⟩⟩).map (·.data.toList) = Lib.split s sep := Lib.splitB_data ⟨⟨sep⟩⟩ 0 (Lib.countB ⟨⟨s⟩⟩ ⟨⟨sep⟩⟩) ⟨⟨s⟩⟩
  have hlen := Lib.splitB_all ⟨⟨sep⟩⟩ h1 0 (Lib.countB ⟨⟨s⟩⟩ ⟨⟨sep⟩⟩) ⟨⟨s⟩⟩ rfl
  have hn : Lib.countB ⟨⟨s⟩⟩ ⟨⟨sep⟩⟩ + 1 = (Lib.split s sep).length := by rw [← hlen, ← hd, List.length_map]
  have hcs : ((Lib.splitB ⟨⟨sep⟩⟩ 0 (Lib.countB ⟨⟨s⟩⟩ ⟨⟨sep⟩⟩) ⟨⟨s⟩⟩).map Value.string) = ((Lib.split s sep).map sC).flatten := by
    rw [← hd, List.map_map]
    generalize Lib.splitB ⟨⟨sep⟩⟩ 0 (Lib.countB ⟨⟨s⟩⟩ ⟨⟨sep⟩⟩) ⟨⟨s⟩⟩ = l
    induction l with
    | nil => rfl
    | cons a l ih => simp only [List.map_cons, List.flatten_cons, ih]; (first | done | rfl)
  have hcl : Lib.countB ⟨⟨s⟩⟩ ⟨⟨sep⟩⟩ ≤ s.length + 1 := Lib.count_le s sep
  have hmax : (100000000 : Nat) ≤ maxLen := by decide
  have := Tryd.strings_Split ⟨⟨s⟩⟩ ⟨⟨sep⟩⟩ m W.w (by rw [hsz]; omega) hm h1
  have hx : CallsX Tryd.prog 57 ⟨[strV s, strV sep]⟩ [] W fun v W' => SlRead W' v (Lib.countB ⟨⟨s⟩⟩ ⟨⟨sep⟩⟩ + 1) ((Lib.splitB ⟨⟨sep⟩⟩ 0 (Lib.countB ⟨⟨s⟩⟩ ⟨⟨sep⟩⟩) ⟨⟨s⟩⟩).map Value.string) :=
    CallsX.of_new ⟨_, Tryd.func57, by kernel_rfl, by kernel_rfl⟩ (by omega) this
  refine hx.mono fun v W' hr => ?_
  rw [hn, hcs] at hr
  exact hr
theorem split_one (s : List UInt8) (c : UInt8) : Lib.split s [c] = splitL c s := split_is c _ s (by rw [Lib.count_one]; exact Nat.le_refl _)
theorem cutg_x (s : List UInt8) (c : UInt8) (hs : s.length ≤ 1000000) (W : PW) (h : HM W) : CallsX Tryd.prog 54 ⟨[strV s, strV [c]]⟩ [] W fun v _ => v = .tuple ⟨[strV (cutW c s).1, strV (cutW c s).2, .bool (decide (c ∈ s))]⟩ := by
  obtain ⟨m, _, hm⟩ := h
  have hsz : (⟨⟨s⟩⟩ : ByteArray).size = s.length := rfl
  obtain ⟨c1, c2⟩ := cut_is c s
  have c3 : (Lib.cut s [c]).2.2 = decide (c ∈ s) := by
    unfold Lib.cut
    rw [Lib.index_one]
    rcases idx_cases c s with ⟨hi, hn⟩ | ⟨o, ho, hso, _⟩
    · rw [hi, if_neg (by decide), decide_eq_false hn]
    · rw [ho, if_pos (by omega), decide_eq_true (by rw [hso]; exact List.mem_append_right _ (List.mem_cons_self ..))]
  refine CallsX.of_below ⟨_, Tryd.func54, by kernel_rfl, by kernel_rfl⟩ ((Tryd.strings_Cut ⟨⟨s⟩⟩ ⟨⟨[c]⟩⟩ m W.w (by rw [hsz]; omega) hm).mono fun e w' ⟨he, n, hw⟩ => ⟨_, he, ?_, ?_⟩)
  · subst hw
    exact ⟨rfl, rfl, rfl, Nat.le_refl _, fun _ _ => rfl⟩
  · rw [← c1, ← c2, ← c3]; (first | done | rfl)
theorem trimw_x (s : List UInt8) (hs : s.length ≤ 1000000) (W : PW) : CallsX Tryd.prog 105 ⟨[strV s, strV [32, 9]]⟩ [] W fun v _ => v = strV (Lib.trimS s [32, 9]) := by
  have hsz : (⟨⟨s⟩⟩ : ByteArray).size = s.length := rfl
  exact CallsX.of_at ⟨_, Tryd.func105, by kernel_rfl, by kernel_rfl⟩
    (Any.strings_Trim_laid Tryd.lays160 (by kernel_rfl) ⟨⟨s⟩⟩ ⟨⟨[32, 9]⟩⟩ W.w (by rw [hsz]; omega) (by decide) (ascii_of_all (by decide)))
/-- The library's errors stand. -/
def IsErr (v : Value) : Prop := v = .nilIface ∨ ∃ t p, v = .iface t p
def HE (W : PW) : Prop := (∃ v, Rd W ⟨3, 0, none⟩ v ∧ IsErr v) ∧ ∃ v, Rd W ⟨4, 0, none⟩ v ∧ IsErr v
theorem HE.mono {W W' : PW} (h : HE W) (l : W.Le W') : HE W' := by
  obtain ⟨⟨a, h1, h2⟩, b, h3, h4⟩ := h
  exact ⟨⟨a, h1.mono l, h2⟩, b, h3.mono l, h4⟩
def AtoiR (v : Value) (s : List UInt8) : Prop :=
  match atoiN s with
  | some n => v = .tuple ⟨[.int .i64 n, .nilIface]⟩
  | none => ∃ n t p, v = .tuple ⟨[.int .i64 n, .iface t p]⟩
theorem bytesWorld_below (w : World) (e : TypeId) (s : ByteArray) : Below w.heap.size w (Lib.bytesWorld w e s) :=
  ⟨rfl, rfl, rfl, by rw [Lib.bytesWorld_size]; exact Nat.le_succ _, fun k hk => Lib.bytesWorld_at_old w _ s k hk⟩
theorem atoi_x (s : List UInt8) (hs : s.length ≤ 1000000) (W : PW) (h : HE W) : CallsX Tryd.prog 107 ⟨[strV s]⟩ [] W fun v _ => AtoiR v s := by
  have hcall : Callable Tryd.prog 107 := ⟨_, Tryd.func107, by kernel_rfl, by kernel_rfl⟩
  have hsz : (⟨⟨s⟩⟩ : ByteArray).size = s.length := rfl
  obtain ⟨⟨a, h1, h2⟩, b, h3, h4⟩ := h
  unfold AtoiR atoiN
  cases ha : Lib.atoiAll s with
  | ok n =>
    dsimp only
    refine CallsX.of_below hcall ((Tryd.strconv_Atoi_ok ⟨⟨s⟩⟩ (by rw [hsz]; omega) n ha W.w).mono fun e w' ⟨he, hw⟩ => ⟨_, he, ?_, rfl⟩)
    rcases hw with rfl | ⟨t, rfl⟩
    · exact Below.refl _ _
    · exact bytesWorld_below _ _ _
  | range =>
    dsimp only
    exact CallsX.of_below hcall ((Tryd.strconv_Atoi_range ⟨⟨s⟩⟩ (by rw [hsz]; omega) ha b W.w h3.2 h4).mono fun e w' ⟨N, he, _, _, hb⟩ => ⟨_, he, hb, _, _, _, rfl⟩)
  | _ =>
    dsimp only
    exact CallsX.of_below hcall ((Tryd.strconv_Atoi_syntax ⟨⟨s⟩⟩ (by rw [hsz]; omega) ha a W.w h1.2 h2).mono fun e w' ⟨N, he, _, _, hb⟩ => ⟨_, he, hb, _, _, _, rfl⟩)
theorem much_x (l : List (List UInt8)) (hl : l.length ≤ 1000000) (u : Value) (W : PW) (h : RP sC W u l) : CallsX Tryd.prog 58 ⟨[u]⟩ [] W fun v _ => v = .bool (muchS l) := by
  obtain ⟨a1, c1, rfl, _, _⟩ := h.form
  refine pureX hmix Tryd.func58 r58 (by kernel_rfl) [.slice a1 l.length c1] rfl ?_
  refine ⟨Nat, fun i => [(7, .v (.int .i64 i))], fun _ => [], fun _ => [], fun i _ => i ≤ l.length ∧ (l.take i).any (fun s => decide (2048 < s.length)) = false, fun i => l.length - i, 0,
    all_sl ⟨rfl, trivial⟩, rfl, ole_refl _, ⟨Nat.zero_le _, rfl⟩, loopOK (fun _ => ⟨⟨trivial, rfl⟩, trivial⟩) (fun _ => rfl) (fun _ => rfl), ?_⟩
  rintro i W5 l5 ⟨hi, hI⟩ fr
  refine ⟨rfl, br_split (fun hq => ?_) (fun hq => ?_)⟩
  · have hq : (i : Int) < l.length := hq
    obtain ⟨p1, rfl, x, hx, _, hr1, _⟩ := h.at (sz := 1) (fun _ => rfl) l5 (j := i) ⟨by omega, hq⟩
    have hx : l[i]? = some x := hx
    have hst : (l.take (i + 1)).any (fun s => decide (2048 < s.length)) = decide (2048 < x.length) := by
      rw [List.take_add_one, hx, Option.toList_some, List.any_append, hI]; simp
    refine ⟨⟨by omega, hq⟩, p1, rfl, strV x, (hr1 (by decide) _ rfl).o, rfl, br_split (fun hb => ?_) (fun hb => ?_)⟩
    · have hb : (2048 : Int) < (x.length : Int) := hb
      refine ret_plain rfl fun _ _ => ?_
      have : l.any (fun s => decide (2048 < s.length)) = true := List.any_eq_true.2 ⟨x, List.mem_of_getElem? hx, decide_eq_true (by omega)⟩
      unfold muchS
      rw [this]; (first | done | rfl)
    · have hb : ¬ (2048 : Int) < (x.length : Int) := hb
      rw [decide_eq_false (by omega)] at hst
      exact ⟨rfl, _, (i64_in ((i : Int) + 1) ⟨by omega, by omega⟩).symm, i + 1, all_sl ⟨rfl, trivial⟩, rfl, ole_refl _, ⟨by omega, hst⟩, by show l.length - (i + 1) < l.length - i; omega⟩
  · have hq : ¬ (i : Int) < l.length := hq
    rw [List.take_of_length_le (by omega)] at hI
    refine ⟨rfl, ret_plain rfl fun _ _ => ?_⟩
    unfold muchS
    rw [hI, Bool.false_or]
    show Value.bool (decide ((33 : Int) < (l.length : Int))) = _
    exact congrArg Value.bool (decide_eq_decide.2 ⟨fun h => by omega, fun h => by omega⟩)
end Go.Proofs.YtkhgmmejgikgnaaDoor

/- Requests, walked: the first line. -/
namespace Go.Proofs.YtkhgmmejgikgnaaDoor
open Go.RowKit

theorem first_of {line m t v : List UInt8} (h : splitL 32 line = [m, t, v]) : firstS line =
    if v = verS ∧ allB 16 greatB m = true ∧ allB 2048 seenB t = true ∧ t.head? = some 47 then
      match unS false (cutW 63 t).1, parseS (cutW 63 t).2 with
      | some p, (q, 0) => some ⟨m, p, q⟩
      | _, _ => none
    else none := by unfold firstS; rw [h]; (first | done | rfl)
theorem unV_cases {o : Option (List UInt8)} {p : List UInt8} {e : Int} (h : unV o = (p, e)) : (o = some p ∧ e = 0) ∨ (o = none ∧ e = 4) := by
  cases o with
  | none => injection h with h1 h2; exact .inr ⟨rfl, h2.symm⟩
  | some l => injection h with h1 h2; exact .inl ⟨by rw [h1], h2.symm⟩
theorem first_no {line : List UInt8} (h : ¬ (splitL 32 line).length = 3) : firstS line = none := by
  unfold firstS
  split
  · rename_i e; rw [e] at h; exact absurd rfl h
  · rfl
def FstR (W : PW) (g : Nat) (h b : Value) (v : Value) (r : Option FirstR) : Prop :=
  match r with
  | some f => v = .bool true ∧ ∃ q, RP pairC W q f.q ∧ OwnB W g (reqC f.m f.p q h b)
  | none => v = .bool false ∧ ∃ m p q, OwnB W g (reqC m p q h b)
theorem three_of {l : List (List UInt8)} (h : l.length = 3) : ∃ m t v, l = [m, t, v] := by
  match l, h with
  | [m, t, v], _ => exact ⟨m, t, v, rfl⟩
theorem cutW_parts (c : UInt8) (s : List UInt8) : (cutW c s).1.length ≤ s.length ∧ (cutW c s).2.length ≤ s.length := cutW_len c s
set_option maxHeartbeats 8000000 in
theorem first_x (line : List UInt8) (hl : line.length ≤ 90000) (m0 p0 : List UInt8) (q0 h b : Value) (g : Nat) (W : PW) (hM : HM W) (hown : OwnB W g (reqC m0 p0 q0 h b)) :
    CallsX Tryd.prog 59 ⟨[.pointer (some ⟨g, 0, none⟩), strV line]⟩ [g] W fun v W' => FstR W' g h b v (firstS line) := by
  refine methX hmix Tryd.func59 r59 (by kernel_rfl) hown [strV line] rfl ?_
  refine call_v rfl (fun W' lw => splitg_x line [32] (by decide) (by omega) W' (hM.mono lw)) (fun W1 u W2 l1 l2 hu => ?_)
  rw [split_one] at hu
  have hmem := splitL_mem 32 line
  obtain ⟨ls, hls⟩ : ∃ ls, splitL 32 line = ls := ⟨_, rfl⟩
  have bad : firstS line = none → ∀ W', OwnB W' g (reqC m0 p0 q0 h b) → FstR W' g h b (.bool false) (firstS line) := fun hf W' ho => by rw [hf]; exact ⟨rfl, _, _, _, ho⟩
  have lA := l1.trans l2
  rw [hls] at hu hmem
  obtain ⟨a1, c1, rfl, _, _⟩ := hu.form
  refine ⟨rfl, br_nsplit (fun h3 => ?_) (fun h3 => ?_)⟩
  · have h3 : ¬ (ls.length : Int) = 3 := h3
    have hf := first_no (line := line) (by rw [hls]; omega)
    exact ret_m1 rfl rfl rfl rfl fun W' _ ho => bad hf W' ho
  have h3 : (ls.length : Int) = 3 := h3
  obtain ⟨m, t, v, rfl⟩ := three_of (l := ls) (by omega)
  have hml := hmem m (by simp)
  have htl := hmem t (by simp)
  have hvl := hmem v (by simp)
  have hF := first_of hls
  have at_ : ∀ (j : Nat) (x : List UInt8) (W' : PW), W2.Le W' → [m, t, v][j]? = some x → ∃ p, a1 = some p ∧ Rd W' (p.add (j * 1)) (strV x) := fun j x W' lw hx => by
    obtain ⟨p1, e, y, hy, _, hr1, _⟩ := hu.at (sz := 1) (fun _ => rfl) lw (j := (j : Int)) ⟨by omega, by have := (List.getElem?_eq_some_iff.1 hx).1; omega⟩
    obtain rfl : x = y := Option.some.inj (hx.symm.trans hy)
    exact ⟨p1, e, hr1 (by decide) _ rfl⟩
  obtain ⟨pa, rfl, _⟩ := at_ 0 m W2 (PW.Le.refl _) rfl
  have rd : ∀ (j : Nat) (x : List UInt8) (W' : PW), W2.Le W' → [m, t, v][j]? = some x → Rd W' (pa.add (j * 1)) (strV x) := fun j x W' lw hx => by
    obtain ⟨p1, e, hr⟩ := at_ j x W' lw hx
    obtain rfl := Option.some.inj e
    exact hr
  have b3 : ∀ j : Nat, j < 3 → (0 : Int) ≤ (j : Int) ∧ (j : Int) < (([m, t, v].length : Nat) : Int) := fun j hj => ⟨by omega, by show (j : Int) < ((3 : Nat) : Int); omega⟩
  refine ⟨b3 2 (by decide), pa, rfl, strV v, (rd 2 v W2 (PW.Le.refl _) rfl).o, br_nsplit (fun hver => ?_) (fun hver => ?_)⟩
  · have hver : ¬ v = verS := hver
    have hf : firstS line = none := by rw [hF, if_neg (fun e => hver e.1)]
    exact ret_m1 rfl rfl rfl rfl fun W' _ ho => bad hf W' ho
  have hver : v = verS := hver
  refine ⟨b3 0 (by decide), pa, rfl, strV m, (rd 0 m W2 (PW.Le.refl _) rfl).o, ?_⟩
  refine call_v rfl (fun W' _ => all_x m 16 100 greatB (fun c W' => great_x c W') (by omega) W') (fun W3 x W4 l3 l4 hx => ?_)
  have lB := l3.trans l4
  obtain ⟨bg, hbg, rfl⟩ : ∃ y, allB 16 greatB m = y ∧ x = .bool y := ⟨_, rfl, hx⟩
  refine br_nsplit' (fun e => ?_) (fun e => ?_)
  · subst e
    have hf : firstS line = none := by rw [hF, if_neg (fun e => by rw [hbg] at e; cases e.2.1)]
    exact ret_m1 rfl rfl rfl rfl fun W' _ ho => bad hf W' ho
  subst e
  refine ⟨b3 1 (by decide), pa, rfl, strV t, (rd 1 t W4 lB rfl).o, ?_⟩
  refine call_v rfl (fun W' _ => all_x t 2048 101 seenB (fun c W' => seen_x c W') (by omega) W') (fun W5 x W6 l5 l6 hx => ?_)
  have lC := lB.trans (l5.trans l6)
  obtain ⟨bs, hbs, rfl⟩ : ∃ y, allB 2048 seenB t = y ∧ x = .bool y := ⟨_, rfl, hx⟩
  refine br_nsplit' (fun e => ?_) (fun e => ?_)
  · subst e
    have hf : firstS line = none := by rw [hF, if_neg (fun e => by rw [hbs] at e; cases e.2.2.1)]
    exact ret_m1 rfl rfl rfl rfl fun W' _ ho => bad hf W' ho
  subst e
  have ht0 : 1 ≤ t.length := by
    unfold allB at hbs
    simp only [Bool.and_eq_true, decide_eq_true_eq] at hbs
    exact hbs.2.1
  obtain ⟨c0, hc0⟩ := at_q (s := t) (i := 0) (by omega)
  have hbc : byteAt t (0 : Int).toNat = c0.toNat := byteAt_get hc0
  have hhd : t.head? = some c0 := by rw [List.head?_eq_getElem?]; exact hc0
  refine ⟨b3 1 (by decide), pa, rfl, strV t, (rd 1 t W6 lC rfl).o, ⟨by decide, by show (0 : Int) < (t.length : Int); omega⟩, rfl, br_nsplit (fun e47 => ?_) (fun e47 => ?_)⟩
  · have e47 : ¬ byteAt t (0 : Int).toNat = 47 := e47
    have hf : firstS line = none := by rw [hF, if_neg (fun e => e47 (by rw [hbc]; have := e.2.2.2; rw [hhd] at this; rw [Option.some.inj this]; (first | done | rfl)))]
    exact ret_m1 rfl rfl rfl rfl fun W' _ ho => bad hf W' ho
  have e47 : byteAt t (0 : Int).toNat = 47 := e47
  have hc47 : c0 = 47 := byte_eq (by show c0.toNat = 47; omega)
  rw [if_pos ⟨hver, hbg, hbs, by rw [hhd, hc47]⟩] at hF
  refine ⟨b3 1 (by decide), pa, rfl, strV t, (rd 1 t W6 lC rfl).o, ?_⟩
  have lD := lA.trans lC
  refine call_v rfl (fun W' lw => cutg_x t 63 (by omega) W' (hM.mono (lD.trans lw))) (fun W7 x W8 l7 l8 hx => ?_)
  subst hx
  have lE := lD.trans (l7.trans l8)
  have hcl := cutW_len 63 t
  obtain ⟨pt, hpt⟩ : ∃ y, (cutW 63 t).1 = y := ⟨_, rfl⟩
  obtain ⟨rt, hrt⟩ : ∃ y, (cutW 63 t).2 = y := ⟨_, rfl⟩
  rw [hpt, hrt] at hF hcl
  refine ⟨_, rfl, _, rfl, _, rfl, ?_⟩
  refine call_v rfl (fun W' _ => unescape_x (cutW 63 t).1 false (by rw [hpt]; omega) W') (fun W9 x W10 l9 l10 hx => ?_)
  rw [hpt] at hx
  have lF := lE.trans (l9.trans l10)
  obtain ⟨r1, hr1⟩ : ∃ y, unV (unS false pt) = y := ⟨_, rfl⟩
  rw [hr1] at hx
  obtain ⟨pth, e1⟩ := r1
  have hx : x = .tuple ⟨[strV pth, .int .i64 e1]⟩ := hx
  subst hx
  refine ⟨_, rfl, _, rfl, ?_⟩
  refine call_v rfl (fun W' lw => qparse_x (cutW 63 t).2 (by rw [hrt]; omega) W' (hM.mono (lF.trans lw))) (fun W11 x W12 l11 l12 hx => ?_)
  rw [hrt] at hx
  obtain ⟨r2, hr2⟩ : ∃ y, parseS rt = y := ⟨_, rfl⟩
  rw [hr2] at hx hF
  obtain ⟨ql, e2⟩ := r2
  obtain ⟨q, rfl, hq⟩ := hx
  dsimp only at hq
  obtain ⟨aq, cq, rfl, _, _⟩ := hq.form
  refine ⟨_, rfl, _, rfl, ?_⟩
  have lG := lC.trans (l7.trans (l8.trans (l9.trans (l10.trans (l11.trans l12)))))
  refine ⟨b3 0 (by decide), pa, rfl, strV m, (rd 0 m W12 lG rfl).o, rfl, ?_⟩
  rcases unV_cases hr1 with ⟨hun, he1⟩ | ⟨hun, he1⟩
  · rw [hun] at hF
    refine br_yes he1 ⟨rfl, ?_⟩
    by_cases h2 : e2 = 0
    · subst h2
      have hF : firstS line = some ⟨m, pth, ql⟩ := hF
      exact ret_m1 rfl rfl rfl rfl fun W' lw ho => by rw [hF]; exact ⟨rfl, _, hq.mono lw, ho⟩
    · have hF : firstS line = none := by
        rw [hF]
        split
        · rename_i h1; simp only [Prod.mk.injEq] at h1; exact absurd h1.2 h2
        · rfl
      exact ret_m1 rfl rfl rfl rfl fun W' lw ho => by rw [hF]; exact ⟨congrArg Value.bool (decide_eq_false (show ¬ (e2 : Int) = 0 by omega)), _, _, _, ho⟩
  · rw [hun] at hF
    have hF : firstS line = none := hF
    refine br_no (by rw [he1]; decide) ?_
    exact ret_m1 rfl rfl rfl rfl fun W' lw ho => by rw [hF]; exact ⟨rfl, _, _, _, ho⟩
end Go.Proofs.YtkhgmmejgikgnaaDoor

/- Requests, walked: a header's line; how long the body is. -/
namespace Go.Proofs.YtkhgmmejgikgnaaDoor
open Go.RowKit

section
variable {P : Program} {B : Base}
/-- An interface's value compared with nil. -/
theorem raw_eqnil_t {o : Oper} {t ty : TypeId} {x : Operand} {f : Fr} {prot : List Nat} {S : GS} {K : GV → GS → Prop} (ht : P.underlying t = some (.interface (P.methodsAt t))) (ho : o.op = .binOp .eql t x (.const .nilIface) ty) (hx : evG f x = .v .nilIface) (hK : K (.v (.bool true)) S) : RawVC P B o f prot S K := by
  refine ⟨fun ρ w ev hev hst => ⟨.v (.bool true), S, ρ, w, ?_, fun _ _ => rfl, Grow.refl _ _, trivial, hst, hK⟩⟩
  obtain ⟨dst, op, type, pos, after, guard⟩ := o
  obtain rfl : op = .binOp .eql t x (.const .nilIface) ty := ho
  have e1 : ev x = .nilIface := by rw [hev, hx]; (first | done | rfl)
  have e2 : ev (.const .nilIface) = .nilIface := by rw [hev]; (first | done | rfl)
  simp only [execOp, e1, e2, eqGuard_nil_constR, Sem.run_bind, Sem.run_pure, Result.andThen_ok, run_eql_nil_nil w t ht]
  (first | done | rfl)
theorem raw_eqnil_f {o : Oper} {t ty d : TypeId} {z : Value} {x : Operand} {f : Fr} {prot : List Nat} {S : GS} {K : GV → GS → Prop} (ht : P.underlying t = some (.interface (P.methodsAt t))) (ho : o.op = .binOp .eql t x (.const .nilIface) ty) (hx : evG f x = .v (.iface d z)) (hK : K (.v (.bool false)) S) : RawVC P B o f prot S K := by
  refine ⟨fun ρ w ev hev hst => ⟨.v (.bool false), S, ρ, w, ?_, fun _ _ => rfl, Grow.refl _ _, trivial, hst, hK⟩⟩
  obtain ⟨dst, op, type, pos, after, guard⟩ := o
  obtain rfl : op = .binOp .eql t x (.const .nilIface) ty := ho
  have e1 : ev x = .iface d z := by rw [hev, hx]; (first | done | rfl)
  have e2 : ev (.const .nilIface) = .nilIface := by rw [hev]; (first | done | rfl)
  simp only [execOp, e1, e2, eqGuard_at_iface, Sem.run_bind, Sem.run_pure, Result.andThen_ok, run_eql_held_nil w t d z ht]
  (first | done | rfl)
end

def HdrR (W : PW) (n₀ : Nat) (xs : List Nat) (g : Nat) (m p : List UInt8) (q b : Value) (hs : List PairS) (A : Option Addr) (c : Nat) (v : Value) (r : Option PairS) : Prop :=
  match r with
  | some h => v = .bool true ∧ ∃ A' c', OwnB W g (reqC m p q (.slice A' (hs ++ [h]).length c') b) ∧ OwnS xs n₀ W (pairO (.slice A' (hs ++ [h]).length c') (hs ++ [h]))
  | none => v = .bool false ∧ OwnB W g (reqC m p q (.slice A hs.length c) b) ∧ OwnS xs n₀ W (pairO (.slice A hs.length c) hs)
theorem own_pair {xs : List Nat} {n₀ : Nat} {W : PW} {A : Option Addr} {c n : Nat} {hs : List PairS} {h : PairS} {cs : List Value} (hcs : cs = (hs.map pairC).flatten ++ pairC h) (hn : n = hs.length + 1) (ho : OwnS xs n₀ W ⟨.slice A n c, 71, 2, n, cs⟩) : OwnS xs n₀ W (pairO (.slice A (hs ++ [h]).length c) (hs ++ [h])) := by
  subst hcs hn
  have e : pairO (.slice A (hs ++ [h]).length c) (hs ++ [h]) = ⟨.slice A (hs.length + 1) c, 71, 2, hs.length + 1, (hs.map pairC).flatten ++ pairC h⟩ := by
    unfold pairO; rw [flat_snoc, List.length_append]; (first | done | rfl)
  rw [e]; exact ho
set_option maxHeartbeats 8000000 in
theorem addhdr_x (line : List UInt8) (hl : line.length ≤ 90000) (hs : List PairS) (hhs : hs.length ≤ 100000) (m p : List UInt8) (q b : Value) (A : Option Addr) (c : Nat) (g : Nat) (W : PW) (hM : HM W) (hown : OwnB W g (reqC m p q (.slice A hs.length c) b))
    (ho : OwnS (pairO (.slice A hs.length c) hs).v.ownBlock.toList W.w.heap.size W (pairO (.slice A hs.length c) hs)) (hne : g ∉ (pairO (.slice A hs.length c) hs).v.ownBlock.toList) :
    CallsX Tryd.prog 60 ⟨[.pointer (some ⟨g, 0, none⟩), strV line]⟩ (g :: (pairO (.slice A hs.length c) hs).v.ownBlock.toList) W fun v W' => HdrR W' W.w.heap.size (pairO (.slice A hs.length c) hs).v.ownBlock.toList g m p q b hs A c v (headerS line) := by
  have hmax : (100000000 : Nat) ≤ maxLen := by decide
  refine methOX (o := pairO (.slice A hs.length c) hs) hmix Tryd.func60 r60 (by kernel_rfl) hown ho hne [strV line] rfl ?_
  refine call_v rfl (fun W' lw => cutg_x line 58 (by omega) W' (hM.mono lw)) (fun W1 u W2 l1 l2 hu => ?_)
  have hcl := cutW_len 58 line
  have hH : headerS line = if 58 ∈ line ∧ allB 40 namedB (cutW 58 line).1 = true ∧ ((cutW 58 line).2 = [] ∨ allB 2048 valuedB (cutW 58 line).2 = true)
    then some ⟨(cutW 58 line).1.map lowC, Lib.trimS (cutW 58 line).2 [32, 9]⟩ else none := rfl
  obtain ⟨n, hn⟩ : ∃ y, (cutW 58 line).1 = y := ⟨_, rfl⟩
  obtain ⟨val, hval⟩ : ∃ y, (cutW 58 line).2 = y := ⟨_, rfl⟩
  rw [hn, hval] at hu hcl hH
  subst hu
  have bad : headerS line = none → ∀ W', OwnB W' g (reqC m p q (.slice A hs.length c) b) → OwnS (pairO (.slice A hs.length c) hs).v.ownBlock.toList W.w.heap.size W' (pairO (.slice A hs.length c) hs) →
      HdrR W' W.w.heap.size (pairO (.slice A hs.length c) hs).v.ownBlock.toList g m p q b hs A c (.bool false) (headerS line) := fun hf W' h1 h2 => by rw [hf]; exact ⟨rfl, h1, h2⟩
  refine ⟨_, rfl, _, rfl, _, rfl, br_nsplit (fun hc => ?_) (fun hc => ?_)⟩
  · have hc : ¬ 58 ∈ line := hc
    have hf : headerS line = none := by rw [hH, if_neg (fun e => hc e.1)]
    exact ret_m1own (i := 0) rfl rfl rfl rfl rfl rfl fun W' _ h1 h2 => bad hf W' h1 h2
  have hc : 58 ∈ line := hc
  refine call_v rfl (fun W' _ => all_x n 40 102 namedB (fun c W' => named_x c W') (by omega) W') (fun W3 x W4 l3 l4 hx => ?_)
  obtain ⟨b1, hb1, rfl⟩ : ∃ y, allB 40 namedB n = y ∧ x = .bool y := ⟨_, rfl, hx⟩
  refine br_nsplit' (fun e => ?_) (fun e => ?_)
  · subst e
    have hf : headerS line = none := by rw [hH, if_neg (fun e => by rw [hb1] at e; cases e.2.1)]
    exact ret_m1own (i := 0) rfl rfl rfl rfl rfl rfl fun W' _ h1 h2 => bad hf W' h1 h2
  subst e
  apply br_nsplit
  case' h1 =>
    intro h0
    have h0 : ¬ val = [] := h0
    refine call_v rfl (fun W' _ => all_x val 2048 103 valuedB (fun c W' => valued_x c W') (by omega) W') (fun W5 x W6 l5 l6 hx => ?_)
    obtain ⟨b2, hb2, rfl⟩ : ∃ y, allB 2048 valuedB val = y ∧ x = .bool y := ⟨_, rfl, hx⟩
    refine br_nsplit' (fun e => ?_) (fun e => ?_)
    · subst e
      have hf : headerS line = none := by rw [hH, if_neg (fun e => e.2.2.elim h0 (fun e => by rw [hb2] at e; cases e))]
      exact ret_m1own (i := 0) rfl rfl rfl rfl rfl rfl fun W' _ h1 h2 => bad hf W' h1 h2
    subst e
    rw [if_pos ⟨hc, hb1, .inr hb2⟩] at hH
  case' h2 =>
    intro h0
    have h0 : val = [] := h0
    rw [if_pos ⟨hc, hb1, .inl h0⟩] at hH
  all_goals
    refine call_v rfl (fun W' _ => lower_x n (by omega) W') (fun W7 x W8 l7 l8 hx => ?_)
    obtain ⟨ln, hln, rfl⟩ : ∃ y, n.map lowC = y ∧ x = strV y := ⟨_, rfl, hx⟩
    refine call_v rfl (fun W' _ => trimw_x val (by omega) W') (fun W9 x W10 l9 l10 hx => ?_)
    obtain ⟨tv, htv, rfl⟩ : ∃ y, Lib.trimS val [32, 9] = y ∧ x = strV y := ⟨_, rfl, hx⟩
    rw [hln, htv] at hH
    refine ⟨rfl, .inl fun g1 W11 l11 hr => ⟨0, _, pairC ⟨ln, tv⟩, rfl, rfl, rfl, rfl, rfl, pairC_one _, fun _ => ⟨_, rfl, hr.o⟩, by show hs.length + 1 ≤ _; omega, by show (hs.length + 1) * 32 ≤ _; omega, rfl, @fun A' c' _ => ?_⟩⟩
    refine ret_m1own (i := 0) rfl rfl rfl rfl rfl rfl fun W' l' hwb hwo => ?_
    rw [hH]
    refine ⟨rfl, A', c', ?_, own_pair rfl rfl hwo⟩
    rw [List.length_append]; exact hwb

def LenR (v : Value) (r : Option Int) : Prop :=
  match r with
  | some n => v = .tuple ⟨[.int .i64 n, .bool true]⟩
  | none => ∃ n, v = .tuple ⟨[.int .i64 n, .bool false]⟩
set_option maxHeartbeats 4000000 in
theorem length_x (hs : List PairS) (m p : List UInt8) (hl : hs.length ≤ 100000) (q u b : Value) (g : Nat) (W : PW) (hE : HE W) (hg : Rds W ⟨g, 0, none⟩ (reqC m p q u b)) (h : RP pairC W u hs) (hv : (hdrS hs clenN).1.length ≤ 1000000) :
    CallsX Tryd.prog 61 ⟨[.pointer (some ⟨g, 0, none⟩)]⟩ [] W fun v _ => LenR v (lengthS hs) := by
  refine pureX hmix Tryd.func61 r61 (by kernel_rfl) [.pointer (some ⟨g, 0, none⟩)] rfl ?_
  have hL : lengthS hs = if ¬ (hdrF hs hostN).2 = 1 ∨ 0 < (hdrF hs teN).2 ∨ 1 < (hdrF hs clenN).2 then none
    else if (hdrS hs clenN).2 = false then some 0
    else match atoiN (hdrS hs clenN).1 with | some n => if allB 9 digitB (hdrS hs clenN).1 = true then some n else none | none => none := rfl
  obtain ⟨n1, hn1⟩ : ∃ y, (hdrF hs hostN).2 = y := ⟨_, rfl⟩
  obtain ⟨n2, hn2⟩ : ∃ y, (hdrF hs teN).2 = y := ⟨_, rfl⟩
  obtain ⟨n3, hn3⟩ : ∃ y, (hdrF hs clenN).2 = y := ⟨_, rfl⟩
  obtain ⟨r, hr⟩ : ∃ y, hdrS hs clenN = y := ⟨_, rfl⟩
  rw [hn1, hn2, hn3, hr] at hL
  rw [hr] at hv
  have bad : lengthS hs = none → LenR (.tuple ⟨[.int .i64 0, .bool false]⟩) (lengthS hs) := fun hf => by rw [hf]; exact ⟨_, rfl⟩
  refine call_v rfl (fun W' lw => count_x hs hostN m p (by omega) q u b g W' (hg.mono lw) (h.mono lw)) (fun W1 x W2 l1 l2 hx => ?_)
  rw [hn1] at hx
  subst hx
  have lA := l1.trans l2
  refine ⟨rfl, br_nsplit (fun e => ?_) (fun e => ?_)⟩
  · have e : ¬ (n1 : Int) = 1 := e
    have hf : lengthS hs = none := by rw [hL, if_pos (.inl (by omega))]
    exact ret_plain rfl fun _ _ => bad hf
  have e1 : (n1 : Int) = 1 := e
  refine call_v rfl (fun W' lw => count_x hs teN m p (by omega) q u b g W' (hg.mono (lA.trans lw)) (h.mono (lA.trans lw))) (fun W3 x W4 l3 l4 hx => ?_)
  rw [hn2] at hx
  subst hx
  have lB := lA.trans (l3.trans l4)
  refine ⟨rfl, ?_⟩
  apply br_split
  · intro e
    have e : (0 : Int) < (n2 : Int) := e
    have hf : lengthS hs = none := by rw [hL, if_pos (.inr (.inl (by omega)))]
    exact ret_plain rfl fun _ _ => bad hf
  intro e
  have e2 : ¬ (0 : Int) < (n2 : Int) := e
  refine call_v rfl (fun W' lw => count_x hs clenN m p (by omega) q u b g W' (hg.mono (lB.trans lw)) (h.mono (lB.trans lw))) (fun W5 x W6 l5 l6 hx => ?_)
  rw [hn3] at hx
  subst hx
  have lC := lB.trans (l5.trans l6)
  refine ⟨rfl, ?_⟩
  apply br_split
  · intro e
    have e : (1 : Int) < (n3 : Int) := e
    have hf : lengthS hs = none := by rw [hL, if_pos (.inr (.inr (by omega)))]
    exact ret_plain rfl fun _ _ => bad hf
  intro e
  have e3 : ¬ (1 : Int) < (n3 : Int) := e
  rw [if_neg (by omega)] at hL
  refine ⟨reqC m p q u b, rfl, (hg.mono lC).o, ?_⟩
  refine call_v rfl (fun W' lw => header_x hs clenN m p (by omega) q u b W' (h.mono (lC.trans lw))) (fun W7 x W8 l7 l8 hx => ?_)
  rw [hr] at hx
  obtain ⟨s, ok⟩ := r
  dsimp only at hx hL hv
  subst hx
  have lD := lC.trans (l7.trans l8)
  refine ⟨_, rfl, _, rfl, br_nsplit' (fun e => ?_) (fun e => ?_)⟩
  · subst e
    rw [if_pos rfl] at hL
    exact ret_plain rfl fun _ _ => by rw [hL]; exact rfl
  subst e
  rw [if_neg (by decide)] at hL
  refine call_v rfl (fun W' lw => atoi_x s hv W' (hE.mono (lD.trans lw))) (fun W9 x W10 l9 l10 hx => ?_)
  unfold AtoiR at hx
  cases ha : atoiN s with
  | none =>
    rw [ha] at hx hL
    obtain ⟨n, t, z, rfl⟩ := hx
    refine ⟨_, rfl, _, rfl, ?_⟩
    refine raw_eqnil_f (by kernel_rfl) rfl rfl ?_
    exact ret_plain rfl fun _ _ => by rw [hL]; exact ⟨_, rfl⟩
  | some n =>
    rw [ha] at hx hL
    dsimp only at hx hL
    subst hx
    refine ⟨_, rfl, _, rfl, ?_⟩
    refine raw_eqnil_t (by kernel_rfl) rfl rfl ?_
    refine call_v rfl (fun W' _ => all_x s 9 108 digitB (fun c W' => digitk_x c W') hv W') (fun W11 x W12 l11 l12 hx => ?_)
    obtain ⟨b1, hb1, rfl⟩ : ∃ y, allB 9 digitB s = y ∧ x = .bool y := ⟨_, rfl, hx⟩
    rw [hb1] at hL
    cases b1 with
    | true =>
      rw [if_pos rfl] at hL
      exact ret_plain rfl fun _ _ => by rw [hL]; exact rfl
    | false =>
      rw [if_neg (by decide)] at hL
      exact ret_plain rfl fun _ _ => by rw [hL]; exact ⟨_, rfl⟩
end Go.Proofs.YtkhgmmejgikgnaaDoor
