/- Layer 15 (lex): plain laws, the program's functions and the document's, walked. -/
import Derived.Test.YtcgbcbdgjhnlaaaGreatXCodeZ
import Derived.Test.YtcgbcbdgjhnlaaaGreatXPB
import Derived.Test.YtcgbcbdgjhnlaaaGreatXShelf
namespace Go.Proofs.YtcgbcbdgjhnlaaaGreat

def nameB (c : UInt8) : Bool := (decide (97 ≤ c.toNat) && decide (c.toNat ≤ 122)) || (decide (65 ≤ c.toNat) && decide (c.toNat ≤ 90)) || (decide (48 ≤ c.toNat) && decide (c.toNat ≤ 57)) || decide (c.toNat = 95)
def blankB (c : UInt8) : Bool := decide (c.toNat = 32) || decide (c.toNat = 9) || decide (c.toNat = 10) || decide (c.toNat = 13)
def textB (c : UInt8) : Bool := decide (32 ≤ c.toNat) && decide (c.toNat ≤ 126) && !decide (c.toNat = 34)
def signL : List UInt8 := [123, 125, 59, 58, 61, 124, 38, 45, 40, 41, 35, 44]
/-- What is neither blank nor remark; 'true': a remark is under way. -/
def skipM : Bool → List UInt8 → List UInt8
  | _, [] => []
  | true, c :: r => if c.toNat = 10 then skipM false r else skipM true r
  | false, c :: r => if blankB c then skipM false r else match r with
    | d :: r' => if c.toNat = 47 ∧ d.toNat = 47 then skipM true r' else c :: r
    | [] => [c]
/-- The token at a place: its kind, its text, what is behind. -/
def tokS (c : UInt8) (r : List UInt8) : Option (Nat × List UInt8 × List UInt8) :=
  if nameB c then some (1, c :: r.takeWhile nameB, r.dropWhile nameB)
  else if c.toNat = 34 then match r.dropWhile textB with
    | d :: r' => if d.toNat = 34 then some (2, r.takeWhile textB, r') else none
    | [] => none
  else match (if c.toNat = 45 then match r with | d :: r' => if d.toNat = 62 then some r' else none | [] => none else none) with
    | some r' => some (3, [45, 62], r')
    | none => if c ∈ signL then some (3, [c], r) else none
structure Tok where
  k : Nat
  t : List UInt8
  r : Nat
def lexF : Nat → List UInt8 → Option (List Tok)
  | 0, _ => none
  | n + 1, s => match skipM false s with
    | [] => some []
    | c :: r => match tokS c r with
      | none => none
      | some (k, t, rest) => match lexF n rest with
        | none => none
        | some l => some (⟨k, t, (c :: r).length⟩ :: l)
def lexS (s : List UInt8) : Option (List Tok) := lexF (s.length + 1) s

theorem skipM_len : ∀ (b : Bool) (s : List UInt8), (skipM b s).length ≤ s.length
  | _, [] => by simp [skipM]
  | true, c :: r => by
    simp only [skipM]; split
    · have := skipM_len false r; simp only [List.length_cons]; omega
    · have := skipM_len true r; simp only [List.length_cons]; omega
  | false, [c] => by
    simp only [skipM]; split <;> simp
  | false, c :: d :: r => by
    simp only [skipM]; split
    · have := skipM_len false (d :: r); simp only [List.length_cons] at *; omega
    · split
      · have := skipM_len true r; simp only [List.length_cons] at *; omega
      · simp
theorem dropWhile_len {α : Type} (p : α → Bool) : ∀ l : List α, (l.dropWhile p).length ≤ l.length
  | [] => by simp
  | a :: l => by
    have := dropWhile_len p l
    simp only [List.dropWhile_cons]; split <;> simp only [List.length_cons] <;> omega
theorem tokS_len {c : UInt8} {r rest t : List UInt8} {k : Nat} (h : tokS c r = some (k, t, rest)) : rest.length ≤ r.length := by
  unfold tokS at h
  split at h
  · simp only [Option.some.injEq, Prod.mk.injEq] at h
    rw [← h.2.2]; exact dropWhile_len _ _
  · split at h
    · split at h
      · rename_i d r' hr
        split at h
        · simp only [Option.some.injEq, Prod.mk.injEq] at h
          have := dropWhile_len textB r
          rw [hr] at this; simp only [List.length_cons] at this
          rw [← h.2.2]; omega
        · cases h
      · cases h
    · split at h
      · rename_i r' hr
        simp only [Option.some.injEq, Prod.mk.injEq] at h
        rw [← h.2.2]
        split at hr
        · split at hr
          · split at hr
            · simp only [Option.some.injEq] at hr; subst hr; simp
            · cases hr
          · cases hr
        · cases hr
      · split at h
        · simp only [Option.some.injEq, Prod.mk.injEq] at h
          rw [← h.2.2]; exact Nat.le_refl _
        · cases h
theorem lexF_more : ∀ (n m : Nat) (s : List UInt8), s.length < n → s.length < m → lexF n s = lexF m s
  | 0, _, s, h, _ => by omega
  | _, 0, s, _, h => by omega
  | n + 1, m + 1, s, h, h' => by
    simp only [lexF]
    have hl := skipM_len false s
    split
    · rfl
    · rename_i c r hs
      rw [hs] at hl; simp only [List.length_cons] at hl
      split
      · rfl
      · rename_i k t rest ht
        have := tokS_len ht
        rw [lexF_more n m rest (by omega) (by omega)]

theorem skip_blank {c : UInt8} (h : blankB c = true) (u : List UInt8) : skipM false (c :: u) = skipM false u := by
  cases u <;> simp [skipM, h]
theorem tokS_sign {c : UInt8} {r : List UInt8} (h1 : ¬ nameB c = true) (h2 : ¬ c.toNat = 34) (h3 : ¬ (c :: r).take 2 = [45, 62]) : tokS c r = if c ∈ signL then some (3, [c], r) else none := by
  unfold tokS
  rw [if_neg h1, if_neg h2]
  by_cases h : c.toNat = 45
  · rw [if_pos h]
    cases r with
    | nil => rfl
    | cons d r =>
      have : ¬ d.toNat = 62 := fun hd => h3 (by rw [UInt8.toNat_inj.1 (show c.toNat = (45 : UInt8).toNat from h), UInt8.toNat_inj.1 (show d.toNat = (62 : UInt8).toNat from hd)]; (first | done | rfl))
      simp only [this, if_false]
  · rw [if_neg h]
def Tok.up (n : Nat) (x : Tok) : Tok := ⟨x.k, x.t, x.r + n⟩
end Go.Proofs.YtcgbcbdgjhnlaaaGreat

namespace Go.Proofs.YtcgbcbdgjhnlaaaGreat
open Go.RowKit

theorem byteAt_get {l : List UInt8} {i : Nat} {c : UInt8} (h : l[i]? = some c) : byteAt l i = c.toNat := by simp [byteAt, h]
theorem drop_get {l r : List UInt8} {i : Nat} {c : UInt8} (h : l.drop i = c :: r) : l[i]? = some c ∧ l.drop (i + 1) = r ∧ i < l.length := by
  have h1 : i < l.length := by
    rcases Nat.lt_or_ge i l.length with h1 | h1
    · exact h1
    · rw [List.drop_eq_nil_of_le h1] at h; cases h
  rw [List.drop_eq_getElem_cons h1, List.cons.injEq] at h
  exact ⟨by rw [List.getElem?_eq_getElem h1, h.1], h.2, h1⟩
theorem take_takeWhile (p : UInt8 → Bool) : ∀ l : List UInt8, l.take (l.takeWhile p).length = l.takeWhile p
  | [] => rfl
  | a :: l => by
    simp only [List.takeWhile_cons]
    split
    · simp [take_takeWhile p l]
    · rfl
theorem drop_takeWhile (p : UInt8 → Bool) : ∀ l : List UInt8, l.drop (l.takeWhile p).length = l.dropWhile p
  | [] => rfl
  | a :: l => by
    simp only [List.takeWhile_cons, List.dropWhile_cons]
    split
    · simp [drop_takeWhile p l]
    · rfl
theorem takeWhile_len (p : UInt8 → Bool) (l : List UInt8) : (l.takeWhile p).length ≤ l.length := by
  have := congrArg List.length (take_takeWhile p l)
  simp at this; omega

def PredB (fid : FuncId) (p : UInt8 → Bool) : Prop := ∀ (c : UInt8) (W : PW), CallsX Tryz.prog fid ⟨[.int .u8 c.toNat]⟩ [] W fun v _ => v = .bool (p c)

theorem letter_x : PredB 92 nameB := by
  intro c W
  refine pureX hmix Tryz.func92 r92 (by kernel_rfl) [.int .u8 c.toNat] rfl ?_
  refine ⟨rfl, ?_⟩
  repeat' first
    | refine ⟨rfl, ?_⟩
    | refine br_split (fun h => ?_) (fun h => ?_)
    | refine ret_plain rfl fun _ _ => ?_
  all_goals (congr 1; rw [Bool.eq_iff_iff]; simp only [nameB, Bool.or_eq_true, Bool.and_eq_true, decide_eq_true_eq, true_iff]; omega)
theorem blank_x : PredB 89 blankB := by
  intro c W
  refine pureX hmix Tryz.func89 r89 (by kernel_rfl) [.int .u8 c.toNat] rfl ?_
  refine ⟨rfl, ?_⟩
  repeat' first
    | refine ⟨rfl, ?_⟩
    | refine br_split (fun h => ?_) (fun h => ?_)
    | refine ret_plain rfl fun _ _ => ?_
  all_goals (congr 1; rw [Bool.eq_iff_iff]; simp only [blankB, Bool.or_eq_true, decide_eq_true_eq, true_iff]; omega)
def lineB (c : UInt8) : Bool := !decide (c.toNat = 10)
theorem line_x : PredB 91 lineB := by
  intro c W
  refine pureX hmix Tryz.func91 r91 (by kernel_rfl) [.int .u8 c.toNat] rfl ?_
  refine ⟨rfl, ret_plain rfl fun _ _ => ?_⟩
  congr 1; rw [Bool.eq_iff_iff]; simp only [lineB, Bool.not_eq_true', decide_eq_false_iff_not]; omega
theorem textb_x : PredB 104 textB := by
  intro c W
  refine pureX hmix Tryz.func104 r104 (by kernel_rfl) [.int .u8 c.toNat] rfl ?_
  refine ⟨rfl, ?_⟩
  repeat' first
    | refine ⟨rfl, ?_⟩
    | refine br_split (fun h => ?_) (fun h => ?_)
    | refine ret_plain rfl fun _ _ => ?_
  all_goals (congr 1; rw [Bool.eq_iff_iff]; simp only [textB, Bool.and_eq_true, Bool.not_eq_true', decide_eq_false_iff_not, decide_eq_true_eq, Bool.false_eq_true, false_iff]; omega)

theorem h2' {j : Nat} {s : List UInt8} (h : j ≤ s.length) : (j : Int) ≤ (⟨⟨s⟩⟩ : ByteArray).data.toList.length := by show (j : Int) ≤ s.length; omega
def scanC (s : List UInt8) (i : Nat) : List Value := [strV s, .int .i64 i]
theorem run_x {p : UInt8 → Bool} {fid : FuncId} (hp : PredB fid p) (s : List UInt8) (i : Nat) (hi : i ≤ s.length) (hs : s.length ≤ 16384) (g : Nat) (W : PW) (ho : OwnB W g (scanC s i)) :
    CallsX Tryz.prog 88 ⟨[.pointer (some ⟨g, 0, none⟩), .func (.func fid) #[] #[]]⟩ [g] W fun v W' => OwnB W' g (scanC s (i + ((s.drop i).takeWhile p).length)) ∧ v = strV ((s.drop i).takeWhile p) := by
  refine methX hmix Tryz.func88 r88 (by kernel_rfl) ho [.func (.func fid) #[] #[]] rfl ?_
  refine ⟨Nat, fun _ => [], fun j => [[.v (strV s), .v (.int .i64 j)]], fun _ => [], fun j _ => i ≤ j ∧ j ≤ s.length ∧ i + ((s.drop i).takeWhile p).length = j + ((s.drop j).takeWhile p).length, fun j => s.length - j, i,
    all_sl trivial, rfl, ole_refl _, ⟨Nat.le_refl _, hi, rfl⟩, loopOK (fun _ => trivial) (fun _ => rfl) (fun _ => rfl), ?_⟩
  intro j W1 l1 ⟨h1, h2, h3⟩ f
  have fin : ((s.drop j).takeWhile p).length = 0 → ∀ W' : PW, OwnB W' g (scanC s j) → OwnB W' g (scanC s (i + ((s.drop i).takeWhile p).length)) ∧ strV ((s.drop i).take (j - i)) = strV ((s.drop i).takeWhile p) := by
    intro h0 W' hw
    rw [h0] at h3
    refine ⟨by rw [h3]; exact hw, ?_⟩
    rw [← take_takeWhile, show ((s.drop i).takeWhile p).length = j - i by omega]
  refine ⟨rfl, br_split (fun h => ?_) (fun h => ?_)⟩
  · have h : (j : Int) < s.length := h
    have hj : j < s.length := by omega
    have hb : byteAt s (j : Int).toNat = (s[j]).toNat := byteAt_get (List.getElem?_eq_getElem hj)
    have hd : s.drop j = s[j] :: s.drop (j + 1) := List.drop_eq_getElem_cons hj
    refine ⟨⟨by omega, h⟩, ?_⟩
    refine call_v rfl (R := fun _ v _ => v = .bool (p s[j])) (fun W' _ => (congrArg (fun x => CallsX Tryz.prog fid ⟨[.int .u8 x]⟩ [] W' fun v _ => v = .bool (p s[j])) hb).mpr (hp _ W')) (fun W2 v W3 _ _ hv => ?_)
    subst hv
    refine br_bool (fun hb => ?_) (fun hb => ?_)
    · refine ⟨rfl, _, (i64_in ((j : Int) + 1) ⟨by omega, by omega⟩).symm, j + 1, all_sl trivial, rfl, ole_refl _, ⟨by omega, by omega, ?_⟩, by dsimp only; omega⟩
      rw [h3, hd, List.takeWhile_cons, hb]; simp; omega
    · refine ⟨⟨by omega, by omega, h2' h2⟩, ?_⟩
      exact ret_m1 rfl rfl rfl rfl fun W' _ hw => fin (by rw [hd, List.takeWhile_cons, hb]; (first | done | rfl)) W' hw
  · have h : ¬ (j : Int) < s.length := h
    refine ⟨⟨by omega, by omega, h2' h2⟩, ?_⟩
    exact ret_m1 rfl rfl rfl rfl fun W' _ hw => fin (by rw [List.drop_eq_nil_of_le (by omega)]; (first | done | rfl)) W' hw
theorem hasPrefix0_x (s p : List UInt8) (W : PW) : CallsX Tryz.prog 103 ⟨[strV s, strV p]⟩ [] W fun v _ => v = .bool (decide (s.take p.length = p)) := by
  refine pureX hmix Tryz.func103 r103 (by kernel_rfl) [strV s, strV p] rfl ?_
  refine ⟨rfl, ?_⟩
  refine br_split (fun h => ?_) (fun h => ?_)
  · have h : (p.length : Int) ≤ s.length := h
    refine ⟨⟨by omega, ?_, ?_⟩, ret_plain rfl fun _ _ => ?_⟩
    · show (0 : Int) ≤ p.length; omega
    · show (p.length : Int) ≤ s.length; omega
    · show Value.bool (decide ((s.drop (0 : Int).toNat).take ((p.length : Int).toNat - (0 : Int).toNat) = p)) = _
      rfl
  · have h : ¬ (p.length : Int) ≤ s.length := h
    refine ret_plain rfl fun _ _ => ?_
    congr 1; symm; rw [decide_eq_false_iff_not]
    intro e
    have := congrArg List.length e
    simp at this; omega
theorem hasPrefix_x (s p : List UInt8) (W : PW) : CallsX Tryz.prog 90 ⟨[strV s, strV p]⟩ [] W fun v _ => v = .bool (decide (s.take p.length = p)) := by
  refine pureX hmix Tryz.func90 r90 (by kernel_rfl) [strV s, strV p] rfl ?_
  refine call_v rfl (fun W' _ => hasPrefix0_x s p W') (fun W2 v W3 _ _ hv => ret_plain rfl fun _ _ => ?_)
  exact hv

theorem takeWhile_le (p : UInt8 → Bool) (s : List UInt8) (i : Nat) (hi : i ≤ s.length) : i + ((s.drop i).takeWhile p).length ≤ s.length := by
  have := takeWhile_len p (s.drop i); rw [List.length_drop] at this; omega
/-- Behind blanks and remarks. -/
theorem skip_run (r : List UInt8) : skipM false r = if (r.dropWhile blankB).take 2 = [47, 47] then skipM false ((r.dropWhile blankB).dropWhile lineB) else r.dropWhile blankB := by
  have h1 : ∀ r : List UInt8, skipM false r = skipM false (r.dropWhile blankB) := by
    intro r
    induction r with
    | nil => rfl
    | cons a r ih =>
      simp only [List.dropWhile_cons]
      split
      · rename_i h; rw [skip_blank h, ih]
      · rfl
  have h2 : ∀ r : List UInt8, skipM true r = skipM false (r.dropWhile lineB) := by
    intro r
    induction r with
    | nil => rfl
    | cons a r ih =>
      simp only [List.dropWhile_cons, lineB, skipM]
      by_cases ha : a.toNat = 10
      · have hb : blankB a = true := by simp [blankB, ha]
        simp [ha, skip_blank hb]
      · simp only [ha, if_false, decide_false, Bool.not_false, if_true]; exact ih
  rw [h1]
  have hb : ∀ c t, r.dropWhile blankB = c :: t → blankB c = false := by
    intro c t e
    have := List.head?_dropWhile_not blankB r
    rw [e] at this; simpa using this
  cases hd : r.dropWhile blankB with
  | nil => rfl
  | cons c t =>
    have hc := hb c t hd
    cases t with
    | nil =>
      have : ¬ ([c].take 2 = [47, 47]) := by simp
      rw [if_neg this]; simp [skipM, hc]
    | cons d t =>
      by_cases h : c.toNat = 47 ∧ d.toNat = 47
      · have e1 : c = 47 := UInt8.toNat_inj.1 h.1
        have e2 : d = 47 := UInt8.toNat_inj.1 h.2
        subst e1 e2
        rw [if_pos (by rfl)]
        have : skipM false (47 :: 47 :: t) = skipM true t := by simp [skipM, hc]
        rw [this, h2]
        (first | done | rfl)
      · have : ¬ ((c :: d :: t).take 2 = [47, 47]) := by
          intro e
          simp only [List.take_succ_cons, List.take_zero, List.cons.injEq, and_true] at e
          rw [e.1, e.2] at h; exact h ⟨rfl, rfl⟩
        rw [if_neg this]; simp [skipM, hc, h]
theorem skip_x (s : List UInt8) (hs : s.length ≤ 16384) (g : Nat) (W : PW) (i : Nat) (hi : i ≤ s.length) (ho : OwnB W g (scanC s i)) :
    CallsX Tryz.prog 67 ⟨[.pointer (some ⟨g, 0, none⟩)]⟩ [g] W fun _ W' => ∃ j, j ≤ s.length ∧ s.drop j = skipM false (s.drop i) ∧ OwnB W' g (scanC s j) := by
  refine methX hmix Tryz.func67 r67 (by kernel_rfl) ho [] rfl ?_
  refine ⟨Nat, fun _ => [], fun j => [[.v (strV s), .v (.int .i64 j)]], fun _ => [], fun j _ => j ≤ s.length ∧ skipM false (s.drop i) = skipM false (s.drop j), fun j => s.length - j, i,
    all_sl trivial, rfl, ole_refl _, ⟨hi, rfl⟩, loopOK (fun _ => trivial) (fun _ => rfl) (fun _ => rfl), ?_⟩
  intro j W1 l1 ⟨h1, h2⟩ f
  refine call_m1 rfl rfl rfl rfl k88 (fun g' W' _ how => (run_x blank_x s j h1 hs g' W' how).mono fun v W2 ⟨hw, _⟩ _ => ⟨_, hw, ?_⟩)
  have hj2 := takeWhile_le blankB s j h1
  have hd2 : s.drop (j + ((s.drop j).takeWhile blankB).length) = (s.drop j).dropWhile blankB := by rw [← drop_takeWhile, List.drop_drop]
  have hsk := skip_run (s.drop j)
  rw [← hd2] at hsk
  have hjk := Nat.le_add_right j ((s.drop j).takeWhile blankB).length
  generalize j + ((s.drop j).takeWhile blankB).length = k at hj2 hd2 hsk hw hjk
  refine ⟨⟨by omega, h2' hj2, Int.le_refl _⟩, ?_⟩
  refine call_v rfl (fun W' _ => hasPrefix_x _ _ W') (fun W3 v W4 _ _ hv => ?_)
  subst hv
  have hcut : ((s.drop k).take (s.length - k)) = s.drop k := by rw [List.take_of_length_le]; simp
  refine br_nsplit (fun hp => ?_) (fun hp => ?_)
  · have hp : ¬ (((s.drop k).take (s.length - k)).take 2 = [47, 47]) := hp
    rw [hcut] at hp
    exact ret_m1 rfl rfl rfl rfl fun W' _ hw => ⟨k, hj2, by rw [h2, hsk, if_neg hp], hw⟩
  · have hp : ((s.drop k).take (s.length - k)).take 2 = [47, 47] := hp
    rw [hcut] at hp
    refine call_m1 rfl rfl rfl rfl k88 (fun g' W' _ how => (run_x line_x s k hj2 hs g' W' how).mono fun v W5 ⟨hw, _⟩ _ => ⟨_, hw, ?_⟩)
    have hm := takeWhile_le lineB s k hj2
    have hdm : s.drop (k + ((s.drop k).takeWhile lineB).length) = (s.drop k).dropWhile lineB := by rw [← drop_takeWhile, List.drop_drop]
    have hpos : 0 < ((s.drop k).takeWhile lineB).length := by
      cases hc : s.drop k with
      | nil => rw [hc] at hp; simp at hp
      | cons c r =>
        rw [hc] at hp
        have : c = 47 := by
          cases r with
          | nil => simp at hp
          | cons d r => simp at hp; exact hp.1
        subst this
        simp [lineB]
    refine ⟨_, all_sl trivial, rfl, ole_refl _, ⟨hm, ?_⟩, by dsimp only; omega⟩
    rw [h2, hsk, if_pos hp, hdm]
end Go.Proofs.YtcgbcbdgjhnlaaaGreat

namespace Go.Proofs.YtcgbcbdgjhnlaaaGreat
open Go.RowKit

theorem u8_back (c : UInt8) : ((c.toNat : Int)).toNat.toUInt8 = c := by simp
theorem indexByte_neg (c : UInt8) : ∀ l : List UInt8, -1 ≤ Lib.indexByte l c ∧ (0 ≤ Lib.indexByte l c ↔ c ∈ l)
  | [] => by simp [Lib.indexByte]
  | a :: l => by
    obtain ⟨h1, h2⟩ := indexByte_neg c l
    simp only [Lib.indexByte]
    by_cases ha : a = c
    · subst ha; simp
    · have hc : ¬ c = a := fun e => ha e.symm
      have h0 : (a == c) = false := by simp [ha]
      rw [h0]
      simp only [Bool.false_eq_true, if_false, List.mem_cons, hc, false_or]
      by_cases hm : Lib.indexByte l c = -1
      · rw [hm] at h2 ⊢
        simp only [beq_self_eq_true, if_true]
        exact ⟨by omega, h2⟩
      · have : (Lib.indexByte l c == -1) = false := by simp [hm]
        rw [this]
        simp only [Bool.false_eq_true, if_false]
        rw [← h2]
        omega
theorem indexByte_x (l : List UInt8) (c : UInt8) (W : PW) : CallsX Tryz.prog 94 ⟨[strV l, .int .u8 c.toNat]⟩ [] W fun v _ => v = .int .i64 (Lib.indexByte l c) := by
  have h := Tryz.strings_IndexByte ⟨⟨l⟩⟩ c.toNat W.w
  rw [u8_back] at h
  exact CallsX.of_same ⟨_, Tryz.func94, by kernel_rfl, by kernel_rfl⟩ h

theorem text_x (s : List UInt8) (hs : s.length ≤ 16384) (g : Nat) (W : PW) (i : Nat) (hi : i < s.length) (ho : OwnB W g (scanC s i)) :
    CallsX Tryz.prog 93 ⟨[.pointer (some ⟨g, 0, none⟩)]⟩ [g] W fun v W' => ∃ j, j ≤ s.length ∧ OwnB W' g (scanC s j) ∧
      ((∃ d r', (s.drop (i + 1)).dropWhile textB = d :: r' ∧ d.toNat = 34 ∧ v = .tuple ⟨[strV ((s.drop (i + 1)).takeWhile textB), .bool true]⟩ ∧ s.drop j = r') ∨
       ((∀ d r', (s.drop (i + 1)).dropWhile textB = d :: r' → ¬ d.toNat = 34) ∧ v = .tuple ⟨[strV [], .bool false]⟩)) := by
  refine methX hmix Tryz.func93 r93 (by kernel_rfl) ho [] rfl ?_
  refine ⟨rfl, _, (i64_in ((i : Int) + 1) ⟨by omega, by omega⟩).symm, ?_⟩
  refine call_m1 rfl rfl rfl rfl k88 (fun g' W' _ how => (run_x textb_x s (i + 1) (by omega) hs g' W' how).mono fun v W2 ⟨hw, hv⟩ _ => ⟨_, hw, ?_⟩)
  subst hv
  have hj := takeWhile_le textB s (i + 1) (by omega)
  have hd : s.drop (i + 1 + ((s.drop (i + 1)).takeWhile textB).length) = (s.drop (i + 1)).dropWhile textB := by rw [← drop_takeWhile, List.drop_drop]
  generalize i + 1 + ((s.drop (i + 1)).takeWhile textB).length = j at hj hd hw
  refine ⟨rfl, br_split (fun h => ?_) (fun h => ?_)⟩
  · have h : (j : Int) = s.length := h
    refine ret_m1 rfl rfl rfl rfl fun W' _ hw => ⟨j, hj, hw, .inr ⟨fun d r' e => ?_, rfl⟩⟩
    rw [← hd, List.drop_eq_nil_of_le (by omega)] at e; cases e
  · have h : ¬ (j : Int) = s.length := h
    have hlt : j < s.length := by omega
    have hc : s.drop j = s[j] :: s.drop (j + 1) := List.drop_eq_getElem_cons hlt
    have hb : byteAt s j = (s[j]).toNat := byteAt_get (List.getElem?_eq_getElem hlt)
    refine ⟨⟨by omega, show (j : Int) < s.length by omega⟩, rfl, br_nsplit (fun h2 => ?_) (fun h2 => ?_)⟩
    · have h2 : ¬ byteAt s j = 34 := h2
      rw [hb] at h2
      refine ret_m1 rfl rfl rfl rfl fun W' _ hw => ⟨j, hj, hw, .inr ⟨fun d r' e => ?_, rfl⟩⟩
      rw [← hd, hc, List.cons.injEq] at e
      rw [← e.1]; omega
    · have h2 : byteAt s j = 34 := h2
      rw [hb] at h2
      refine ⟨rfl, _, (i64_in ((j : Int) + 1) ⟨by omega, by omega⟩).symm, ?_⟩
      refine ret_m1 rfl rfl rfl rfl fun W' _ hw => ⟨j + 1, by omega, hw, .inl ⟨s[j], s.drop (j + 1), by rw [← hd, hc], by omega, rfl, rfl⟩⟩

def tokC (n : Nat) (x : Tok) : List Value := [.int .i64 x.k, strV x.t, .int .i64 ((n : Int) - x.r)]
theorem tokC_len (n : Nat) (x : Tok) : (tokC n x).length = 3 := rfl
theorem token_x (s : List UInt8) (hs : s.length ≤ 16384) (g : Nat) (W : PW) (i : Nat) (c : UInt8) (r : List UInt8) (hc : s.drop i = c :: r) (ho : OwnB W g (scanC s i)) :
    CallsX Tryz.prog 68 ⟨[.pointer (some ⟨g, 0, none⟩)]⟩ [g] W fun v W' => ∃ j, j ≤ s.length ∧ OwnB W' g (scanC s j) ∧
      match tokS c r with
      | some (k, t, rest) => v = .tuple ⟨[.agg ⟨[.int .i64 k, strV t, .int .i64 i]⟩, .bool true]⟩ ∧ s.drop j = rest
      | none => ∃ (k : Int) (t : List UInt8), v = .tuple ⟨[.agg ⟨[.int .i64 k, strV t, .int .i64 i]⟩, .bool false]⟩ := by
  obtain ⟨hg, hr, hlt⟩ := drop_get hc
  have hb : byteAt s i = c.toNat := byteAt_get hg
  have hsr : s.length = i + 1 + r.length := by have := congrArg List.length hr; simp at this; omega
  refine methX hmix Tryz.func68 r68 (by kernel_rfl) ho [] rfl ?_
  refine ⟨⟨by omega, show (i : Int) < s.length by omega⟩, ?_⟩
  refine call_v rfl (R := fun _ v _ => v = .bool (nameB c)) (fun W' _ => (congrArg (fun x => CallsX Tryz.prog 92 ⟨[.int .u8 x]⟩ [] W' fun v _ => v = .bool (nameB c)) hb).mpr (letter_x _ W')) (fun W2 v W3 _ _ hv => ?_)
  subst hv
  refine br_bool (fun hn => ?_) (fun hn => ?_)
  · refine call_m1 rfl rfl rfl rfl k88 (fun g' W' _ how => (run_x letter_x s i (by omega) hs g' W' how).mono fun v W2 ⟨hw, hv⟩ _ => ⟨_, hw, ?_⟩)
    subst hv
    refine ret_m1 rfl rfl rfl rfl fun W' _ hw => ⟨_, takeWhile_le nameB s i (by omega), hw, ?_⟩
    have ht : tokS c r = some (1, c :: r.takeWhile nameB, r.dropWhile nameB) := by unfold tokS; rw [if_pos hn]
    have hw1 : (s.drop i).takeWhile nameB = c :: r.takeWhile nameB := by rw [hc, List.takeWhile_cons, hn]; (first | done | rfl)
    rw [ht, hw1]
    refine ⟨rfl, ?_⟩
    rw [← hw1, ← List.drop_drop, drop_takeWhile, hc, List.dropWhile_cons, hn]; (first | done | rfl)
  have hn' : ¬ nameB c = true := by rw [hn]; exact Bool.false_ne_true
  refine ⟨rfl, br_split (fun h34 => ?_) (fun h34 => ?_)⟩
  · have h34 : byteAt s i = 34 := h34
    rw [hb] at h34
    have h34' : c.toNat = 34 := by omega
    refine call_m1 rfl rfl rfl rfl k93 (fun g' W' _ how => (text_x s hs g' W' i hlt how).mono fun v W2 ⟨j, hj, hw, hv⟩ _ => ⟨_, hw, ?_⟩)
    rw [hr] at hv
    rcases hv with ⟨d, r', e1, e2, rfl, e3⟩ | ⟨e1, rfl⟩
    · refine ⟨_, rfl, _, rfl, ?_⟩
      refine ret_m1 rfl rfl rfl rfl fun W' _ hw => ⟨j, hj, hw, ?_⟩
      have ht : tokS c r = some (2, r.takeWhile textB, r') := by unfold tokS; rw [if_neg hn', if_pos h34', e1]; exact if_pos e2
      rw [ht]; exact ⟨rfl, e3⟩
    · refine ⟨_, rfl, _, rfl, ?_⟩
      refine ret_m1 rfl rfl rfl rfl fun W' _ hw => ⟨j, hj, hw, ?_⟩
      have ht : tokS c r = none := by
        unfold tokS; rw [if_neg hn', if_pos h34']
        cases e : r.dropWhile textB with
        | nil => rfl
        | cons d r' => exact if_neg (e1 d r' e)
      rw [ht]; exact ⟨_, [], rfl⟩
  have h34 : ¬ byteAt s i = 34 := h34
  rw [hb] at h34
  have h34' : ¬ c.toNat = 34 := by omega
  have hcut : (s.drop i).take (s.length - i) = c :: r := by rw [hc, List.take_of_length_le]; simp; omega
  refine ⟨⟨by omega, h2' (by omega), Int.le_refl _⟩, ?_⟩
  refine call_v rfl (fun W' _ => hasPrefix_x _ _ W') (fun W3 v W4 _ _ hv => ?_)
  subst hv
  refine br_split (fun hp => ?_) (fun hp => ?_)
  · have hp : ((s.drop i).take (s.length - i)).take 2 = [45, 62] := hp
    rw [hcut] at hp
    refine ⟨rfl, _, (i64_in ((i : Int) + 2) ⟨by omega, by omega⟩).symm, ?_⟩
    have hr2 : ∃ r', r = 62 :: r' ∧ c = 45 := by
      cases r with
      | nil => simp at hp
      | cons d r => simp at hp; exact ⟨r, by rw [hp.2], hp.1⟩
    obtain ⟨r', rfl, rfl⟩ := hr2
    simp only [List.length_cons] at hsr
    refine ret_m1 rfl rfl rfl rfl fun W' _ hw => ⟨i + 2, by omega, hw, ?_⟩
    exact ⟨rfl, (drop_get hr).2.1⟩
  · have hp : ¬ ((s.drop i).take (s.length - i)).take 2 = [45, 62] := hp
    rw [hcut] at hp
    refine call_v rfl (R := fun _ v _ => v = .int .i64 (Lib.indexByte signL c)) (fun W' _ => (congrArg (fun x => CallsX Tryz.prog 94 ⟨[strV signL, .int .u8 x]⟩ [] W' fun v _ => v = .int .i64 (Lib.indexByte signL c)) hb).mpr (indexByte_x _ _ W')) (fun W5 v W6 _ _ hv => ?_)
    subst hv
    obtain ⟨_, hm⟩ := indexByte_neg c signL
    refine ⟨rfl, br_split (fun hs1 => ?_) (fun hs1 => ?_)⟩
    · have hin := hm.1 hs1
      refine ⟨rfl, _, (i64_in ((i : Int) + 1) ⟨by omega, by omega⟩).symm, ⟨by omega, by omega, show (i : Int) + 1 ≤ s.length by omega⟩, rfl, _, (i64_in ((i : Int) + 1) ⟨by omega, by omega⟩).symm, ?_⟩
      refine ret_m1 rfl rfl rfl rfl fun W' _ hw => ⟨i + 1, by omega, hw, ?_⟩
      have ht : tokS c r = some (3, [c], r) := by rw [tokS_sign hn' h34' hp, if_pos hin]
      rw [ht]
      refine ⟨?_, hr⟩
      have : (s.drop i).take (((i : Int) + 1).toNat - i) = [c] := by rw [hc, show ((i : Int) + 1).toNat - i = 1 by omega]; (first | done | rfl)
      show Value.tuple ⟨[.agg ⟨[.int .i64 3, strV ((s.drop i).take (((i : Int) + 1).toNat - i)), .int .i64 i]⟩, .bool true]⟩ = _
      rw [this]; (first | done | rfl)
    · refine ret_m1 rfl rfl rfl rfl fun W' _ hw => ⟨i, by omega, hw, ?_⟩
      have ht : tokS c r = none := by rw [tokS_sign hn' h34' hp]; exact if_neg fun h => hs1 (hm.2 h)
      rw [ht]; exact ⟨_, [], rfl⟩
end Go.Proofs.YtcgbcbdgjhnlaaaGreat

namespace Go.Proofs.YtcgbcbdgjhnlaaaGreat
open Go.RowKit

/-- The tokens; what is wrong: 0, 4, 5. -/
def lexA (s : List UInt8) : List Tok × Int := if 16384 < s.length then ([], 5) else match lexS s with | some l => (l, 0) | none => ([], 4)
def appT (a : List Tok) : Option (List Tok) → Option (List Tok)
  | some l => some (a ++ l)
  | none => none
theorem tokC_one (n : Nat) (x : Tok) : ∀ u ∈ tokC n x, u.oneCell' = true := by
  intro u hu
  simp only [tokC, List.mem_cons, List.not_mem_nil, or_false] at hu
  rcases hu with rfl | rfl | rfl <;> rfl
theorem lex_x (s : List UInt8) (W : PW) : CallsX Tryz.prog 51 ⟨[strV s]⟩ [] W fun v W' => ∃ u, v = .tuple ⟨[u, .int .i64 (lexA s).2]⟩ ∧ RP (tokC s.length) W' u (lexA s).1 := by
  refine pureNX hmix Tryz.func51 r51 (by kernel_rfl) [nilO 149 3] rfl [strV s] rfl ?_
  refine ⟨rfl, br_split (fun h => ?_) (fun h => ?_)⟩
  · have h : (16384 : Int) < s.length := h
    refine ret_plain rfl fun W' _ => ⟨.slice none 0 0, ?_, ?_⟩
    · rw [lexA, if_pos (by omega)]
    · rw [lexA, if_pos (by omega)]; exact RP.nil _ _
  have h : ¬ (16384 : Int) < s.length := h
  have hs : s.length ≤ 16384 := by omega
  have hA : lexA s = match lexS s with | some l => (l, 0) | none => ([], 4) := by rw [lexA, if_neg (by omega)]
  refine ⟨Nat × Value × List Tok, fun t => [(5, .v t.2.1)], fun t => [[.v (strV s), .v (.int .i64 t.1)]], fun t => [⟨t.2.1, 149, 3, t.2.2.length, (t.2.2.map (tokC s.length)).flatten⟩],
    fun t _ => t.1 ≤ s.length ∧ t.2.2.length ≤ t.1 ∧ (∃ A c, t.2.1 = .slice A t.2.2.length c) ∧ ∀ n, (s.drop t.1).length < n → lexS s = appT t.2.2 (lexF n (s.drop t.1)), fun t => s.length - t.1, (0, .slice none 0 0, []),
    all_sl ⟨rfl, trivial⟩, rfl, ole_refl _, ⟨Nat.zero_le _, Nat.le_refl _, ⟨none, 0, rfl⟩, fun n hn => ?_⟩, loopOK (fun _ => ⟨⟨trivial, rfl⟩, trivial⟩) (fun _ => rfl) (fun _ => rfl), ?_⟩
  · show lexS s = appT [] (lexF n s)
    rw [lexF_more n (s.length + 1) s hn (Nat.lt_succ_self _)]
    unfold lexS
    cases lexF (s.length + 1) s <;> rfl
  rintro ⟨j, u, acc⟩ W1 l1 ⟨h1, h2, ⟨A, c0, hu⟩, h3⟩ f
  dsimp only at h1 h2 hu h3
  subst hu
  refine call_m1 rfl rfl rfl rfl k67 (fun g' W' _ how => (skip_x s hs g' W' j h1 how).mono fun v W2 ⟨k, hk, hdk, hw⟩ _ => ⟨_, hw, ?_⟩)
  have h3' : lexS s = appT acc (lexF ((s.drop j).length + 1) (s.drop j)) := h3 _ (Nat.lt_succ_self _)
  have hjk : j ≤ k := by
    have := congrArg List.length hdk
    have h5 := skipM_len false (s.drop j)
    rw [← this] at h5
    simp only [List.length_drop] at h5; omega
  simp only [lexF] at h3'
  rw [← hdk] at h3'
  refine ⟨rfl, br_split (fun hq => ?_) (fun hq => ?_)⟩
  · have hq : (k : Int) = s.length := hq
    rw [List.drop_eq_nil_of_le (by omega)] at h3'
    have e : lexA s = (acc, 0) := by rw [hA, h3']; simp [appT]
    refine RetVC.freeze (fun _ hb => hb) (i := 0) rfl fun W3 _ hf => ret_plain rfl fun W4 l4 => ?_
    rw [e]
    exact ⟨_, rfl, hf.mono l4⟩
  have hq : ¬ (k : Int) = s.length := hq
  have hkl : k < s.length := by omega
  have hc : s.drop k = s[k] :: s.drop (k + 1) := List.drop_eq_getElem_cons hkl
  generalize s[k] = c at hc
  generalize s.drop (k + 1) = r at hc
  rw [hc] at h3'
  dsimp only at h3'
  refine call_m1 rfl rfl rfl rfl k68 (fun g' W' _ how => (token_x s hs g' W' k c r hc how).mono fun v W3 ⟨m, hm, hw, hv⟩ _ => ⟨_, hw, ?_⟩)
  have hrl : r.length + 1 = s.length - k := by have := congrArg List.length hc; simpa using this.symm
  cases ht : tokS c r with
  | none =>
    rw [ht] at hv h3'
    obtain ⟨kk, tt, rfl⟩ := hv
    have e : lexA s = ([], 4) := by rw [hA, h3']; (first | done | rfl)
    refine ⟨_, rfl, _, rfl, ?_⟩
    refine ret_plain rfl fun W' _ => ⟨.slice none 0 0, ?_, ?_⟩
    · rw [e]
    · rw [e]; exact RP.nil _ _
  | some p =>
    obtain ⟨k', t, rest⟩ := p
    rw [ht] at hv h3'
    obtain ⟨rfl, hrest⟩ := hv
    have hlen := tokS_len ht
    have hml : k < m := by
      have := congrArg List.length hrest
      simp only [List.length_drop] at this; omega
    refine ⟨_, rfl, _, rfl, rfl, .inl fun b W4 _ hr => ⟨0, _, tokC s.length ⟨k', t, (c :: r).length⟩, rfl, rfl, rfl, rfl, rfl, tokC_one _ _, fun _ => ⟨_, rfl, ?_⟩, ?_, ?_, rfl, @fun A' c' _ => ?_⟩⟩
    · have e : (s.length : Int) - (c :: r).length = k := by simp only [List.length_cons]; omega
      unfold tokC; dsimp only; rw [e]; exact hr.o
    · show acc.length + 1 ≤ maxLen
      have : (20000 : Nat) ≤ maxLen := by decide
      omega
    · show (acc.length + 1) * 32 ≤ 140737488355328; omega
    · refine ⟨(m, .slice A' (acc.length + 1) c', acc ++ [⟨k', t, (c :: r).length⟩]), all_sl ⟨rfl, trivial⟩, rfl, ole_eq ?_, ⟨hm, ?_, ⟨A', c', by simp⟩, fun n hn => ?_⟩, by dsimp only; omega⟩
      · show [_] = [_]
        simp
      · simp; omega
      · rw [hrest] at hn ⊢
        rw [h3', lexF_more n ((s.drop j).length) rest hn (by simp only [List.length_drop]; omega)]
        dsimp only
        cases lexF (s.drop j).length rest <;> simp [appT]
end Go.Proofs.YtcgbcbdgjhnlaaaGreat

namespace Go.Proofs.YtcgbcbdgjhnlaaaGreat

theorem tokS_tlen {c : UInt8} {r rest t : List UInt8} {k : Nat} (h : tokS c r = some (k, t, rest)) : t.length ≤ (c :: r).length := by
  have tw : ∀ (p : UInt8 → Bool) (l : List UInt8), (l.takeWhile p).length ≤ l.length := by
    intro p l
    induction l with
    | nil => simp
    | cons a l ih => simp only [List.takeWhile_cons]; split <;> simp only [List.length_cons, List.length_nil] <;> omega
  unfold tokS at h
  split at h
  · simp only [Option.some.injEq, Prod.mk.injEq] at h
    rw [← h.2.1]; have := tw nameB r; simp only [List.length_cons]; omega
  · split at h
    · split at h
      · split at h
        · simp only [Option.some.injEq, Prod.mk.injEq] at h
          rw [← h.2.1]; have := tw textB r; simp only [List.length_cons]; omega
        · cases h
      · cases h
    · split at h
      · rename_i r' hr
        simp only [Option.some.injEq, Prod.mk.injEq] at h
        rw [← h.2.1]
        split at hr
        · split at hr
          · simp only [List.length_cons, List.length_nil]; omega
          · cases hr
        · cases hr
      · split at h
        · simp only [Option.some.injEq, Prod.mk.injEq] at h
          rw [← h.2.1]; simp
        · cases h
theorem lexF_tlen : ∀ (n : Nat) (s : List UInt8) (l : List Tok), lexF n s = some l → ∀ x ∈ l, x.t.length ≤ s.length
  | 0, s, l, h => by simp [lexF] at h
  | n + 1, s, l, h => by
    simp only [lexF] at h
    have h0 := skipM_len false s
    split at h
    · simp only [Option.some.injEq] at h; subst h; intro x hx; cases hx
    · rename_i c r hc
      rw [hc] at h0
      split at h
      · cases h
      · rename_i k t rest ht
        split at h
        · cases h
        · rename_i l' hl'
          simp only [Option.some.injEq] at h; subst h
          intro x hx
          rcases List.mem_cons.1 hx with rfl | hx
          · have := tokS_tlen ht; dsimp only at *; omega
          · have h1 := lexF_tlen n rest l' hl' x hx
            have h2 := tokS_len ht
            simp only [List.length_cons] at h0; omega
end Go.Proofs.YtcgbcbdgjhnlaaaGreat

namespace Go.Proofs.YtcgbcbdgjhnlaaaGreat
open Go.RowKit
theorem short_x (s : List UInt8) (n : Nat) (W : PW) : CallsX Tryz.prog 30 ⟨[strV s, .int .i64 n]⟩ [] W fun v _ => v = strV (s.take n) := by
  refine pureX hmix Tryz.func30 r30 (by kernel_rfl) [strV s, .int .i64 n] rfl ?_
  refine ⟨rfl, br_split (fun h => ?_) (fun h => ?_)⟩
  · have h : (n : Int) < s.length := h
    refine ⟨⟨by omega, by omega, show (n : Int) ≤ s.length by omega⟩, ret_plain rfl fun _ _ => rfl⟩
  · have h : ¬ (n : Int) < s.length := h
    refine ret_plain rfl fun _ _ => ?_
    rw [List.take_of_length_le (by omega)]; (first | done | rfl)
end Go.Proofs.YtcgbcbdgjhnlaaaGreat

namespace Go.Proofs.YtcgbcbdgjhnlaaaGreat
open Go.RowKit

end Go.Proofs.YtcgbcbdgjhnlaaaGreat

namespace Go.Proofs.YtcgbcbdgjhnlaaaGreat
open Go.RowKit

theorem lexF_cnt : ∀ (n : Nat) (s : List UInt8) (l : List Tok), lexF n s = some l → l.length ≤ s.length ∧ ∀ x ∈ l, x.r ≤ s.length
  | 0, s, l, h => by simp [lexF] at h
  | n + 1, s, l, h => by
    simp only [lexF] at h
    have h0 := skipM_len false s
    split at h
    · simp only [Option.some.injEq] at h; subst h; exact ⟨Nat.zero_le _, fun x hx => by cases hx⟩
    · rename_i c r hc
      rw [hc] at h0; simp only [List.length_cons] at h0
      split at h
      · cases h
      · rename_i k t rest ht
        split at h
        · cases h
        · rename_i l' hl'
          simp only [Option.some.injEq] at h; subst h
          obtain ⟨h1, h2⟩ := lexF_cnt n rest l' hl'
          have h3 := tokS_len ht
          refine ⟨by simp only [List.length_cons]; omega, fun x hx => ?_⟩
          rcases List.mem_cons.1 hx with rfl | hx
          · simp only [List.length_cons]; omega
          · have := h2 x hx; omega
end Go.Proofs.YtcgbcbdgjhnlaaaGreat

namespace Go.Proofs.YtcgbcbdgjhnlaaaGreat
open Go.RowKit

end Go.Proofs.YtcgbcbdgjhnlaaaGreat
