/- The program's functions of layer 15, walked: what each call answers and leaves. -/
import Derived.Test.YtcgbcbdgjhnlaaaCodeL
import Derived.Test.YtcgbcbdgjhnlaaaMore
import Derived.Test.YtcgbcbdgjhnlaaaLexL
namespace Go.Proofs.Ytcgbcbdgjhnlaaa
open Go.RowKit

theorem byteAt_get {l : List UInt8} {i : Nat} {c : UInt8} (h : l[i]? = some c) : byteAt l i = c.toNat := by simp [byteAt, h]
theorem drop_get {l r : List UInt8} {i : Nat} {c : UInt8} (h : l.drop i = c :: r) : l[i]? = some c ∧ l.drop (i + 1) = r ∧ i < l.length := by
  have h1 : i < l.length := by
    rcases Nat.lt_or_ge i l.length with h1 | h1
    · exact h1
    · rw [List.drop_eq_nil_of_le h1] at h; cases h
  rw [List.drop_eq_getElem_cons h1, List.cons.injEq] at h
  exact ⟨by rw [List.getElem?_eq_getElem h1, h.1], h.2, h1⟩
theorem take_takeWhile (p : UInt8 → Bool) : ∀ l : List UInt8, l.take (l.takeWhile p).length = l.takeWhile p
  | [] => rfl
  | a :: l => by
    simp only [List.takeWhile_cons]
    split
    · simp [take_takeWhile p l]
    · rfl
theorem drop_takeWhile (p : UInt8 → Bool) : ∀ l : List UInt8, l.drop (l.takeWhile p).length = l.dropWhile p
  | [] => rfl
  | a :: l => by
    simp only [List.takeWhile_cons, List.dropWhile_cons]
    split
    · simp [drop_takeWhile p l]
    · rfl
theorem takeWhile_len (p : UInt8 → Bool) (l : List UInt8) : (l.takeWhile p).length ≤ l.length := by
  have := congrArg List.length (take_takeWhile p l)
  simp at this; omega

def PredB (fid : FuncId) (p : UInt8 → Bool) : Prop := ∀ (c : UInt8) (W : PW), CallsX Try.prog fid ⟨[.int .u8 c.toNat]⟩ [] W fun v _ => v = .bool (p c)

theorem letter_x : PredB 131 nameB := by
  intro c W
  refine pureX hmix Try.func131 r131 (by kernel_rfl) [.int .u8 c.toNat] rfl ?_
  refine ⟨rfl, ?_⟩
  repeat' first
    | refine ⟨rfl, ?_⟩
    | refine br_split (fun h => ?_) (fun h => ?_)
    | refine ret_plain rfl fun _ _ => ?_
  all_goals (congr 1; rw [Bool.eq_iff_iff]; simp only [nameB, Bool.or_eq_true, Bool.and_eq_true, decide_eq_true_eq, true_iff]; omega)
theorem blank_x : PredB 128 blankB := by
  intro c W
  refine pureX hmix Try.func128 r128 (by kernel_rfl) [.int .u8 c.toNat] rfl ?_
  refine ⟨rfl, ?_⟩
  repeat' first
    | refine ⟨rfl, ?_⟩
    | refine br_split (fun h => ?_) (fun h => ?_)
    | refine ret_plain rfl fun _ _ => ?_
  all_goals (congr 1; rw [Bool.eq_iff_iff]; simp only [blankB, Bool.or_eq_true, decide_eq_true_eq, true_iff]; omega)
def lineB (c : UInt8) : Bool := !decide (c.toNat = 10)
theorem line_x : PredB 130 lineB := by
  intro c W
  refine pureX hmix Try.func130 r130 (by kernel_rfl) [.int .u8 c.toNat] rfl ?_
  refine ⟨rfl, ret_plain rfl fun _ _ => ?_⟩
  congr 1; rw [Bool.eq_iff_iff]; simp only [lineB, Bool.not_eq_true', decide_eq_false_iff_not]; omega
theorem textb_x : PredB 159 textB := by
  intro c W
  refine pureX hmix Try.func159 r159 (by kernel_rfl) [.int .u8 c.toNat] rfl ?_
  refine ⟨rfl, ?_⟩
  repeat' first
    | refine ⟨rfl, ?_⟩
    | refine br_split (fun h => ?_) (fun h => ?_)
    | refine ret_plain rfl fun _ _ => ?_
  all_goals (congr 1; rw [Bool.eq_iff_iff]; simp only [textB, Bool.and_eq_true, Bool.not_eq_true', decide_eq_false_iff_not, decide_eq_true_eq, Bool.false_eq_true, false_iff]; omega)

theorem h2' {j : Nat} {s : List UInt8} (h : j ≤ s.length) : (j : Int) ≤ (⟨⟨s⟩⟩ : ByteArray).data.toList.length := by show (j : Int) ≤ s.length; omega
def scanC (s : List UInt8) (i : Nat) : List Value := [strV s, .int .i64 i]
theorem run_x {p : UInt8 → Bool} {fid : FuncId} (hp : PredB fid p) (s : List UInt8) (i : Nat) (hi : i ≤ s.length) (hs : s.length ≤ 16384) (g : Nat) (W : PW) (ho : OwnB W g (scanC s i)) :
    CallsX Try.prog 127 ⟨[.pointer (some ⟨g, 0, none⟩), .func (.func fid) #[] #[]]⟩ [g] W fun v W' => OwnB W' g (scanC s (i + ((s.drop i).takeWhile p).length)) ∧ v = strV ((s.drop i).takeWhile p) := by
  refine methX hmix Try.func127 r127 (by kernel_rfl) ho [.func (.func fid) #[] #[]] rfl ?_
  refine ⟨Nat, fun _ => [], fun j => [[.v (strV s), .v (.int .i64 j)]], fun _ => [], fun j _ => i ≤ j ∧ j ≤ s.length ∧ i + ((s.drop i).takeWhile p).length = j + ((s.drop j).takeWhile p).length, fun j => s.length - j, i,
    all_sl trivial, rfl, ole_refl _, ⟨Nat.le_refl _, hi, rfl⟩, loopOK (fun _ => trivial) (fun _ => rfl) (fun _ => rfl), ?_⟩
  intro j W1 l1 ⟨h1, h2, h3⟩ f
  have fin : ((s.drop j).takeWhile p).length = 0 → ∀ W' : PW, OwnB W' g (scanC s j) → OwnB W' g (scanC s (i + ((s.drop i).takeWhile p).length)) ∧ strV ((s.drop i).take (j - i)) = strV ((s.drop i).takeWhile p) := by
    intro h0 W' hw
    rw [h0] at h3
    refine ⟨by rw [h3]; exact hw, ?_⟩
    rw [← take_takeWhile, show ((s.drop i).takeWhile p).length = j - i by omega]
  refine ⟨rfl, br_split (fun h => ?_) (fun h => ?_)⟩
  · have h : (j : Int) < s.length := h
    have hj : j < s.length := by omega
    have hb : byteAt s (j : Int).toNat = (s[j]).toNat := byteAt_get (List.getElem?_eq_getElem hj)
    have hd : s.drop j = s[j] :: s.drop (j + 1) := List.drop_eq_getElem_cons hj
    refine ⟨⟨by omega, h⟩, ?_⟩
    refine call_v rfl (R := fun _ v _ => v = .bool (p s[j])) (fun W' _ => (congrArg (fun x => CallsX Try.prog fid ⟨[.int .u8 x]⟩ [] W' fun v _ => v = .bool (p s[j])) hb).mpr (hp _ W')) (fun W2 v W3 _ _ hv => ?_)
    subst hv
    refine br_bool (fun hb => ?_) (fun hb => ?_)
    · refine ⟨rfl, _, (i64_in ((j : Int) + 1) ⟨by omega, by omega⟩).symm, j + 1, all_sl trivial, rfl, ole_refl _, ⟨by omega, by omega, ?_⟩, by dsimp only; omega⟩
      rw [h3, hd, List.takeWhile_cons, hb]; simp; omega
    · refine ⟨⟨by omega, by omega, h2' h2⟩, ?_⟩
      exact ret_m1 rfl rfl rfl rfl fun W' _ hw => fin (by rw [hd, List.takeWhile_cons, hb]; rfl) W' hw
  · have h : ¬ (j : Int) < s.length := h
    refine ⟨⟨by omega, by omega, h2' h2⟩, ?_⟩
    exact ret_m1 rfl rfl rfl rfl fun W' _ hw => fin (by rw [List.drop_eq_nil_of_le (by omega)]; rfl) W' hw
theorem hasPrefix0_x (s p : List UInt8) (W : PW) : CallsX Try.prog 158 ⟨[strV s, strV p]⟩ [] W fun v _ => v = .bool (decide (s.take p.length = p)) := by
  refine pureX hmix Try.func158 r158 (by kernel_rfl) [strV s, strV p] rfl ?_
  refine ⟨rfl, ?_⟩
  refine br_split (fun h => ?_) (fun h => ?_)
  · have h : (p.length : Int) ≤ s.length := h
    refine ⟨⟨by omega, ?_, ?_⟩, ret_plain rfl fun _ _ => ?_⟩
    · show (0 : Int) ≤ p.length; omega
    · show (p.length : Int) ≤ s.length; omega
    · show Value.bool (decide ((s.drop (0 : Int).toNat).take ((p.length : Int).toNat - (0 : Int).toNat) = p)) = _
      rfl
  · have h : ¬ (p.length : Int) ≤ s.length := h
    refine ret_plain rfl fun _ _ => ?_
    congr 1; symm; rw [decide_eq_false_iff_not]
    intro e
    have := congrArg List.length e
    simp at this; omega
theorem hasPrefix_x (s p : List UInt8) (W : PW) : CallsX Try.prog 129 ⟨[strV s, strV p]⟩ [] W fun v _ => v = .bool (decide (s.take p.length = p)) := by
  refine pureX hmix Try.func129 r129 (by kernel_rfl) [strV s, strV p] rfl ?_
  refine call_v rfl (fun W' _ => hasPrefix0_x s p W') (fun W2 v W3 _ _ hv => ret_plain rfl fun _ _ => ?_)
  exact hv

theorem takeWhile_le (p : UInt8 → Bool) (s : List UInt8) (i : Nat) (hi : i ≤ s.length) : i + ((s.drop i).takeWhile p).length ≤ s.length := by
  have := takeWhile_len p (s.drop i); rw [List.length_drop] at this; omega
/-- Behind blanks and remarks. -/
theorem skip_run (r : List UInt8) : skipM false r = if (r.dropWhile blankB).take 2 = [47, 47] then skipM false ((r.dropWhile blankB).dropWhile lineB) else r.dropWhile blankB := by
  have h1 : ∀ r : List UInt8, skipM false r = skipM false (r.dropWhile blankB) := by
    intro r
    induction r with
    | nil => rfl
    | cons a r ih =>
      simp only [List.dropWhile_cons]
      split
      · rename_i h; rw [skip_blank h, ih]
      · rfl
  have h2 : ∀ r : List UInt8, skipM true r = skipM false (r.dropWhile lineB) := by
    intro r
    induction r with
    | nil => rfl
    | cons a r ih =>
      simp only [List.dropWhile_cons, lineB, skipM]
      by_cases ha : a.toNat = 10
      · have hb : blankB a = true := by simp [blankB, ha]
        simp [ha, skip_blank hb]
      · simp only [ha, if_false, decide_false, Bool.not_false, if_true]; exact ih
  rw [h1]
  have hb : ∀ c t, r.dropWhile blankB = c :: t → blankB c = false := by
    intro c t e
    have := List.head?_dropWhile_not blankB r
    rw [e] at this; simpa using this
  cases hd : r.dropWhile blankB with
  | nil => rfl
  | cons c t =>
    have hc := hb c t hd
    cases t with
    | nil =>
      have : ¬ ([c].take 2 = [47, 47]) := by simp
      rw [if_neg this]; simp [skipM, hc]
    | cons d t =>
      by_cases h : c.toNat = 47 ∧ d.toNat = 47
      · have e1 : c = 47 := UInt8.toNat_inj.1 h.1
        have e2 : d = 47 := UInt8.toNat_inj.1 h.2
        subst e1 e2
        rw [if_pos (by rfl)]
        have : skipM false (47 :: 47 :: t) = skipM true t := by simp [skipM, hc]
        rw [this, h2]
        rfl
      · have : ¬ ((c :: d :: t).take 2 = [47, 47]) := by
          intro e
          simp only [List.take_succ_cons, List.take_zero, List.cons.injEq, and_true] at e
          rw [e.1, e.2] at h; exact h ⟨rfl, rfl⟩
        rw [if_neg this]; simp [skipM, hc, h]
theorem skip_x (s : List UInt8) (hs : s.length ≤ 16384) (g : Nat) (W : PW) (i : Nat) (hi : i ≤ s.length) (ho : OwnB W g (scanC s i)) :
    CallsX Try.prog 80 ⟨[.pointer (some ⟨g, 0, none⟩)]⟩ [g] W fun _ W' => ∃ j, j ≤ s.length ∧ s.drop j = skipM false (s.drop i) ∧ OwnB W' g (scanC s j) := by
  refine methX hmix Try.func80 r80 (by kernel_rfl) ho [] rfl ?_
  refine ⟨Nat, fun _ => [], fun j => [[.v (strV s), .v (.int .i64 j)]], fun _ => [], fun j _ => j ≤ s.length ∧ skipM false (s.drop i) = skipM false (s.drop j), fun j => s.length - j, i,
    all_sl trivial, rfl, ole_refl _, ⟨hi, rfl⟩, loopOK (fun _ => trivial) (fun _ => rfl) (fun _ => rfl), ?_⟩
  intro j W1 l1 ⟨h1, h2⟩ f
  refine call_m1 rfl rfl rfl rfl k127 (fun g' W' _ how => (run_x blank_x s j h1 hs g' W' how).mono fun v W2 ⟨hw, _⟩ _ => ⟨_, hw, ?_⟩)
  have hj2 := takeWhile_le blankB s j h1
  have hd2 : s.drop (j + ((s.drop j).takeWhile blankB).length) = (s.drop j).dropWhile blankB := by rw [← drop_takeWhile, List.drop_drop]
  have hsk := skip_run (s.drop j)
  rw [← hd2] at hsk
  have hjk := Nat.le_add_right j ((s.drop j).takeWhile blankB).length
  generalize j + ((s.drop j).takeWhile blankB).length = k at hj2 hd2 hsk hw hjk
  refine ⟨⟨by omega, h2' hj2, Int.le_refl _⟩, ?_⟩
  refine call_v rfl (fun W' _ => hasPrefix_x _ _ W') (fun W3 v W4 _ _ hv => ?_)
  subst hv
  have hcut : ((s.drop k).take (s.length - k)) = s.drop k := by rw [List.take_of_length_le]; simp
  refine br_nsplit (fun hp => ?_) (fun hp => ?_)
  · have hp : ¬ (((s.drop k).take (s.length - k)).take 2 = [47, 47]) := hp
    rw [hcut] at hp
    exact ret_m1 rfl rfl rfl rfl fun W' _ hw => ⟨k, hj2, by rw [h2, hsk, if_neg hp], hw⟩
  · have hp : ((s.drop k).take (s.length - k)).take 2 = [47, 47] := hp
    rw [hcut] at hp
    refine call_m1 rfl rfl rfl rfl k127 (fun g' W' _ how => (run_x line_x s k hj2 hs g' W' how).mono fun v W5 ⟨hw, _⟩ _ => ⟨_, hw, ?_⟩)
    have hm := takeWhile_le lineB s k hj2
    have hdm : s.drop (k + ((s.drop k).takeWhile lineB).length) = (s.drop k).dropWhile lineB := by rw [← drop_takeWhile, List.drop_drop]
    have hpos : 0 < ((s.drop k).takeWhile lineB).length := by
      cases hc : s.drop k with
      | nil => rw [hc] at hp; simp at hp
      | cons c r =>
        rw [hc] at hp
        have : c = 47 := by
          cases r with
          | nil => simp at hp
          | cons d r => simp at hp; exact hp.1
        subst this
        simp [lineB]
    refine ⟨_, all_sl trivial, rfl, ole_refl _, ⟨hm, ?_⟩, by dsimp only; omega⟩
    rw [h2, hsk, if_pos hp, hdm]
end Go.Proofs.Ytcgbcbdgjhnlaaa
