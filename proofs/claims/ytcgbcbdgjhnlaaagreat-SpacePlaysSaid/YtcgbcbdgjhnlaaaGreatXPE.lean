/- Layer 11 (tuple): plain laws, the program's functions and the document's, walked. -/
import Derived.Test.YtcgbcbdgjhnlaaaGreatXPD
import Derived.Test.YtcgbcbdgjhnlaaaGreatXCodeZ
namespace Go.Proofs.YtcgbcbdgjhnlaaaGreat
def smallB (c : UInt8) : Bool := decide (97 ≤ c.toNat) && decide (c.toNat ≤ 122)
def figB (c : UInt8) : Bool := (decide (48 ≤ c.toNat) && decide (c.toNat ≤ 57)) || decide (c.toNat = 95)
def wordB (c : UInt8) : Bool := smallB c || figB c
def idB (c : UInt8) : Bool := smallB c || figB c || (decide (65 ≤ c.toNat) && decide (c.toNat ≤ 90)) || decide (c.toNat = 46) || decide (c.toNat = 45)
def kept : List (List UInt8) := [[117, 115, 101, 114], [116, 104, 105, 115], [110, 97, 109, 101, 115, 112, 97, 99, 101], [114, 101, 108, 97, 116, 105, 111, 110], [115, 99, 111, 112, 101]]
def allS (p : UInt8 → Bool) (s : List UInt8) : Bool := s.all p && (decide (1 ≤ s.length) && decide (s.length ≤ 32))
def wordS (s : List UInt8) : Bool := !decide (s ∈ kept) && (allS wordB s && match s with | c :: _ => smallB c | [] => false)
def idS (s : List UInt8) : Bool := allS idB s
def cutL (c : UInt8) : List UInt8 → Option (List UInt8 × List UInt8)
  | [] => none
  | x :: r => if x = c then some ([], r) else match cutL c r with | some (a, b) => some (x :: a, b) | none => none
structure RefS where
  space : List UInt8
  id : List UInt8
  deriving DecidableEq
structure SubS where
  user : List UInt8
  set : RefS
  rel : List UInt8
  deriving DecidableEq
structure TupS where
  object : RefS
  rel : List UInt8
  subject : SubS
  deriving DecidableEq
def noRef : RefS := ⟨[], []⟩
def isRefS (r : RefS) : Bool := wordS r.space && idS r.id
def refT (r : RefS) : List UInt8 := r.space ++ 58 :: r.id
def refP (s : List UInt8) : Option RefS := match cutL 58 s with | some (a, b) => if isRefS ⟨a, b⟩ then some ⟨a, b⟩ else none | none => none
theorem cutL_some {c : UInt8} : ∀ {s a b : List UInt8}, cutL c s = some (a, b) → s = a ++ c :: b
  | x :: r, a, b, h => by
    simp only [cutL] at h
    split at h
    · rename_i hx
      simp only [Option.some.injEq, Prod.mk.injEq] at h
      obtain ⟨rfl, rfl⟩ := h; rw [hx]; (first | done | rfl)
    · split at h
      · rename_i a' b' hr
        simp only [Option.some.injEq, Prod.mk.injEq] at h
        obtain ⟨rfl, rfl⟩ := h; rw [cutL_some hr]; (first | done | rfl)
      · cases h
theorem refP_some {s : List UInt8} {r : RefS} (h : refP s = some r) : refT r = s ∧ isRefS r = true := by
  simp only [refP] at h
  split at h
  · rename_i a b hc
    split at h
    · rename_i hr
      simp only [Option.some.injEq] at h; subst h
      exact ⟨(cutL_some hc).symm, hr⟩
    · cases h
  · cases h
end Go.Proofs.YtcgbcbdgjhnlaaaGreat

namespace Go.Proofs.YtcgbcbdgjhnlaaaGreat
open Go.RowKit

theorem small_x : PredB 77 smallB := by
  intro c W
  refine pureX hmix Tryz.func77 r77 (by kernel_rfl) [.int .u8 c.toNat] rfl ?_
  refine ⟨rfl, ?_⟩
  repeat' first
    | refine ⟨rfl, ?_⟩
    | refine br_split (fun h => ?_) (fun h => ?_)
    | refine ret_plain rfl fun _ _ => ?_
  all_goals (congr 1; rw [Bool.eq_iff_iff]; simp only [smallB, Bool.and_eq_true, decide_eq_true_eq, Bool.false_eq_true, false_iff]; omega)
theorem figure_x : PredB 78 figB := by
  intro c W
  refine pureX hmix Tryz.func78 r78 (by kernel_rfl) [.int .u8 c.toNat] rfl ?_
  refine ⟨rfl, ?_⟩
  repeat' first
    | refine ⟨rfl, ?_⟩
    | refine br_split (fun h => ?_) (fun h => ?_)
    | refine ret_plain rfl fun _ _ => ?_
  all_goals (congr 1; rw [Bool.eq_iff_iff]; simp only [figB, Bool.or_eq_true, Bool.and_eq_true, decide_eq_true_eq, true_iff]; omega)
theorem wordb_x : PredB 76 wordB := by
  intro c W
  refine pureX hmix Tryz.func76 r76 (by kernel_rfl) [.int .u8 c.toNat] rfl ?_
  refine call_v rfl (fun W' _ => small_x c W') (fun W1 v W2 _ _ h => ?_); subst h
  refine br_bool (fun h1 => ?_) (fun h1 => ?_)
  · refine ret_plain rfl fun _ _ => ?_
    simp [wordB, h1]
  · refine call_v rfl (fun W' _ => figure_x c W') (fun W1 v W2 _ _ h => ?_); subst h
    refine ret_plain rfl fun _ _ => ?_
    simp [wordB, h1]
theorem idb_x : PredB 102 idB := by
  intro c W
  refine pureX hmix Tryz.func102 r102 (by kernel_rfl) [.int .u8 c.toNat] rfl ?_
  have fin : ∀ b1 b2 : Bool, smallB c = b1 → (b1 = false → figB c = b2) → True := fun _ _ _ _ => trivial
  refine call_v rfl (fun W' _ => small_x c W') (fun W1 v W2 _ _ h => ?_); subst h
  refine br_bool (fun h1 => ?_) (fun h1 => ?_)
  · refine ret_plain rfl fun _ _ => ?_
    simp [idB, h1]
  · refine call_v rfl (fun W' _ => figure_x c W') (fun W1 v W2 _ _ h => ?_); subst h
    refine br_bool (fun h2 => ?_) (fun h2 => ?_)
    · refine ret_plain rfl fun _ _ => ?_
      simp [idB, h1, h2]
    · refine ⟨rfl, ?_⟩
      repeat' first
        | refine ⟨rfl, ?_⟩
        | refine br_split (fun h => ?_) (fun h => ?_)
        | refine ret_plain rfl fun _ _ => ?_
      all_goals (congr 1; rw [Bool.eq_iff_iff]; simp only [idB, h1, h2, Bool.or_eq_true, Bool.and_eq_true, decide_eq_true_eq, Bool.false_eq_true, true_iff, false_or]; omega)

theorem all_xl {p : UInt8 → Bool} {fid : FuncId} (hp : PredB fid p) (s : List UInt8) (hs : s.length ≤ 9223372036854775807) (W : PW) :
    CallsX Tryz.prog 75 ⟨[strV s, .func (.func fid) #[] #[]]⟩ [] W fun v _ => v = .bool (allS p s) := by
  refine pureX hmix Tryz.func75 r75 (by kernel_rfl) [strV s, .func (.func fid) #[] #[]] rfl ?_
  refine ⟨Nat, fun i => [(8, .v (.int .i64 i))], fun _ => [], fun _ => [], fun i _ => i ≤ s.length ∧ s.all p = (s.drop i).all p, fun i => s.length - i, 0,
    all_sl ⟨rfl, trivial⟩, rfl, ole_refl _, ⟨Nat.zero_le _, rfl⟩, loopOK (fun _ => ⟨⟨trivial, rfl⟩, trivial⟩) (fun _ => rfl) (fun _ => rfl), ?_⟩
  intro i W1 l1 ⟨hi, hI⟩ f
  refine ⟨rfl, br_split (fun h => ?_) (fun h => ?_)⟩
  · have h : (i : Int) < s.length := h
    have hil : i < s.length := by omega
    have hb : byteAt s (i : Int).toNat = (s[i]).toNat := byteAt_get (List.getElem?_eq_getElem hil)
    rw [List.drop_eq_getElem_cons hil, List.all_cons] at hI
    refine ⟨⟨by omega, h⟩, ?_⟩
    refine call_v rfl (R := fun _ v _ => v = .bool (p s[i])) (fun W' _ => (congrArg (fun x => CallsX Tryz.prog fid ⟨[.int .u8 x]⟩ [] W' fun v _ => v = .bool (p s[i])) hb).mpr (hp _ W')) (fun W2 v W3 _ _ hv => ?_)
    subst hv
    generalize p s[i] = b at hI
    cases b
    · refine ret_plain rfl fun _ _ => ?_
      simp [allS, hI]
    · refine ⟨rfl, _, (i64_in ((i : Int) + 1) ⟨by omega, by omega⟩).symm, i + 1, all_sl ⟨rfl, trivial⟩, rfl, ole_refl _, ⟨by omega, by simpa using hI⟩, by dsimp only; omega⟩
  · have h : ¬ (i : Int) < s.length := h
    rw [List.drop_eq_nil_of_le (by omega)] at hI
    refine ⟨rfl, br_split (fun h1 => ?_) (fun h1 => ?_)⟩
    · have h1 : (1 : Int) ≤ s.length := h1
      refine ⟨rfl, ret_plain rfl fun _ _ => ?_⟩
      show Value.bool (decide ((s.length : Int) ≤ 32)) = _
      congr 1
      rw [allS, hI, Bool.eq_iff_iff]
      simp; omega
    · have h1 : ¬ (1 : Int) ≤ s.length := h1
      refine ret_plain rfl fun _ _ => ?_
      congr 1
      rw [allS, Bool.eq_iff_iff]
      simp; omega
theorem word_xl (s : List UInt8) (hs : s.length ≤ 9223372036854775807) (W : PW) : CallsX Tryz.prog 55 ⟨[strV s]⟩ [] W fun v _ => v = .bool (wordS s) := by
  refine pureX hmix Tryz.func55 r55 (by kernel_rfl) [strV s] rfl ?_
  have no : s ∈ kept → wordS s = false := fun h => by simp [wordS, h]
  refine br_split (fun h0 => ?_) (fun h1 => ?_)
  · have h : s = [117, 115, 101, 114] := h0
    refine br_yes h0 ?_
    refine ret_plain rfl fun _ _ => ?_
    rw [no (by rw [h]; simp [kept])]
  refine br_split (fun h0 => ?_) (fun h2 => ?_)
  · have h : s = [116, 104, 105, 115] := h0
    refine br_yes h0 ?_
    refine ret_plain rfl fun _ _ => ?_
    rw [no (by rw [h]; simp [kept])]
  refine br_split (fun h0 => ?_) (fun h3 => ?_)
  · have h : s = [110, 97, 109, 101, 115, 112, 97, 99, 101] := h0
    refine br_yes h0 ?_
    refine ret_plain rfl fun _ _ => ?_
    rw [no (by rw [h]; simp [kept])]
  refine br_split (fun h0 => ?_) (fun h4 => ?_)
  · have h : s = [114, 101, 108, 97, 116, 105, 111, 110] := h0
    refine br_yes h0 ?_
    refine ret_plain rfl fun _ _ => ?_
    rw [no (by rw [h]; simp [kept])]
  refine br_split (fun h0 => ?_) (fun h5 => ?_)
  · have h : s = [115, 99, 111, 112, 101] := h0
    refine ret_plain rfl fun _ _ => ?_
    rw [no (by rw [h]; simp [kept])]
  have hk : ¬ s ∈ kept := by
    intro h
    simp only [kept, List.mem_cons, List.not_mem_nil, or_false] at h
    rcases h with h | h | h | h | h
    · exact h1 h
    · exact h2 h
    · exact h3 h
    · exact h4 h
    · exact h5 h
  refine call_v rfl (fun W' _ => all_xl wordb_x s hs W') (fun W1 v W2 _ _ h => ?_); subst h
  refine br_bool (fun h6 => ?_) (fun h6 => ?_)
  · cases s with
    | nil => cases h6
    | cons c r =>
      refine ⟨⟨by omega, by show (0 : Int) < (((c :: r).length : Nat) : Int); simp⟩, ?_⟩
      refine call_v rfl (fun W' _ => small_x c W') (fun W1 v W2 _ _ h => ?_); subst h
      refine ret_plain rfl fun _ _ => ?_
      congr 1
      rw [wordS, h6]; simp [hk]
  · refine ret_plain rfl fun _ _ => ?_
    congr 1
    unfold wordS; rw [h6]; simp
theorem word_x (s : List UInt8) (hs : s.length ≤ 1000000) (W : PW) : CallsX Tryz.prog 55 ⟨[strV s]⟩ [] W fun v _ => v = .bool (wordS s) := word_xl s (by omega) W
theorem id_xl (s : List UInt8) (hs : s.length ≤ 9223372036854775807) (W : PW) : CallsX Tryz.prog 83 ⟨[strV s]⟩ [] W fun v _ => v = .bool (idS s) := by
  refine pureX hmix Tryz.func83 r83 (by kernel_rfl) [strV s] rfl ?_
  refine call_v rfl (fun W' _ => all_xl idb_x s hs W') (fun W1 v W2 _ _ h => ?_); subst h
  exact ret_plain rfl fun _ _ => rfl
theorem name_x (b : Bool) (W : PW) : CallsX Tryz.prog 82 ⟨[.bool b]⟩ [] W fun v _ => v = .int .i64 (if b then 0 else 9) := by
  refine pureX hmix Tryz.func82 r82 (by kernel_rfl) [.bool b] rfl ?_
  cases b
  · exact ret_plain rfl fun _ _ => rfl
  · exact ret_plain rfl fun _ _ => rfl

def refC (r : RefS) : List Value := [strV r.space, strV r.id]
/-- (As long as any text may be.) -/
def RefS.fits (r : RefS) : Prop := r.space.length ≤ 9223372036854775807 ∧ r.id.length ≤ 9223372036854775807
/-- No text of it is too long. -/
def RefS.small (r : RefS) : Prop := r.space.length ≤ 1000000 ∧ r.id.length ≤ 1000000
def SubS.small (s : SubS) : Prop := s.user.length ≤ 1000000 ∧ s.set.small ∧ s.rel.length ≤ 1000000
def TupS.small (t : TupS) : Prop := t.object.small ∧ t.rel.length ≤ 1000000 ∧ t.subject.small
def okE (b : Bool) : Int := if b then 0 else 9
theorem checkRef_xl (r : RefS) (h : r.fits) (W : PW) : CallsX Tryz.prog 62 ⟨[.agg ⟨refC r⟩]⟩ [] W fun v _ => v = .int .i64 (okE (isRefS r)) := by
  refine pureX hmix Tryz.func62 r62 (by kernel_rfl) [.agg ⟨refC r⟩] rfl ?_
  refine call_v rfl (fun W' _ => word_xl r.space h.1 W') (fun W1 v W2 _ _ hv => ?_); subst hv
  refine br_bool (fun h1 => ?_) (fun h1 => ?_)
  · refine call_v rfl (fun W' _ => id_xl r.id h.2 W') (fun W1 v W2 _ _ hv => ?_); subst hv
    refine call_v rfl (fun W' _ => name_x _ W') (fun W1 v W2 _ _ hv => ?_); subst hv
    refine ret_plain rfl fun _ _ => ?_
    rw [isRefS, h1]; (first | done | rfl)
  · refine call_v rfl (fun W' _ => name_x _ W') (fun W1 v W2 _ _ hv => ?_); subst hv
    refine ret_plain rfl fun _ _ => ?_
    rw [isRefS, h1]; (first | done | rfl)
theorem checkRef_x (r : RefS) (h : r.small) (W : PW) : CallsX Tryz.prog 62 ⟨[.agg ⟨refC r⟩]⟩ [] W fun v _ => v = .int .i64 (okE (isRefS r)) := checkRef_xl r ⟨by have := h.1; omega, by have := h.2; omega⟩ W
theorem okE_true {b : Bool} (h : okE b = 0) : b = true := by cases b <;> first | rfl | cases h
theorem okE_false {b : Bool} (h : ¬ okE b = 0) : b = false := by cases b <;> first | rfl | exact absurd rfl h
theorem cutL_idx (c : UInt8) : ∀ s : List UInt8, match cutL c s with | some (a, _) => Lib.indexByte s c = a.length | none => Lib.indexByte s c = -1
  | [] => rfl
  | x :: r => by
    have ih := cutL_idx c r
    simp only [cutL, Lib.indexByte]
    by_cases h : x = c
    · simp [h]
    · have hb : (x == c) = false := by simp [h]
      rw [if_neg h, hb]
      cases hc : cutL c r with
      | none =>
        rw [hc] at ih
        simp only at ih
        simp [ih]
      | some p =>
        obtain ⟨a, b⟩ := p
        rw [hc] at ih
        simp only at ih
        have : ¬ Lib.indexByte r c = -1 := by omega
        have h2 : (Lib.indexByte r c == -1) = false := by simp [this]
        simp only [Bool.false_eq_true, if_false, ih, List.length_cons]
        push_cast; (first | done | rfl)
theorem index1_x (s : List UInt8) (c : UInt8) (W : PW) : CallsX Tryz.prog 113 ⟨[strV s, strV [c]]⟩ [] W fun v _ => v = .int .i64 (Lib.indexByte s c) :=
  CallsX.of_same ⟨_, Tryz.func113, by kernel_rfl, by kernel_rfl⟩ (Tryz.stringslite_Index_one ⟨⟨s⟩⟩ c W.w)
def cutV (c : UInt8) (s : List UInt8) : Value := match cutL c s with
  | some (a, b) => .tuple ⟨[strV a, strV b, .bool true]⟩
  | none => .tuple ⟨[strV s, strV [], .bool false]⟩
theorem cut0_x (s : List UInt8) (c : UInt8) (hs : s.length ≤ 1000000) (W : PW) : CallsX Tryz.prog 108 ⟨[strV s, strV [c]]⟩ [] W fun v _ => v = cutV c s := by
  refine pureX hmix Tryz.func108 r108 (by kernel_rfl) [strV s, strV [c]] rfl ?_
  refine call_v rfl (fun W' _ => index1_x s c W') (fun W1 v W2 _ _ hv => ?_); subst hv
  have hi := cutL_idx c s
  unfold cutV
  cases hc : cutL c s with
  | none =>
    rw [hc] at hi
    refine ⟨rfl, br_no (by show ¬ (0 : Int) ≤ _; rw [hi]; decide) ?_⟩
    exact ret_plain rfl fun _ _ => rfl
  | some p =>
    obtain ⟨a, b⟩ := p
    rw [hc] at hi
    have hsp := cutL_some hc
    have hl : s.length = a.length + 1 + b.length := by rw [hsp]; simp; omega
    have hi : Lib.indexByte s c = a.length := hi
    refine ⟨rfl, br_yes (by show (0 : Int) ≤ _; omega) ?_⟩
    refine ⟨⟨by omega, by omega, by show Lib.indexByte s c ≤ (s.length : Int); omega⟩, rfl, _, (i64_in (Lib.indexByte s c + (1 : Nat)) ⟨by omega, by omega⟩).symm, ⟨by omega, by show Lib.indexByte s c + (1 : Nat) ≤ (s.length : Int); omega, Int.le_refl _⟩, ?_⟩
    refine ret_plain rfl fun _ _ => ?_
    have e1 : (s.drop (0 : Int).toNat).take ((Lib.indexByte s c).toNat - (0 : Int).toNat) = a := by
      rw [hi, hsp]; simp
    have e2 : (s.drop (Lib.indexByte s c + (1 : Nat)).toNat).take ((s.length : Int).toNat - (Lib.indexByte s c + (1 : Nat)).toNat) = b := by
      have hd : s.drop (Lib.indexByte s c + (1 : Nat)).toNat = b := by
        rw [hi, show ((a.length : Int) + (1 : Nat)).toNat = a.length + 1 by omega, hsp, ← List.drop_drop, List.drop_left]; (first | done | rfl)
      rw [hd, List.take_of_length_le]
      rw [← hd]; simp
    show Value.tuple ⟨[strV ((s.drop (0 : Int).toNat).take ((Lib.indexByte s c).toNat - (0 : Int).toNat)), strV ((s.drop (Lib.indexByte s c + (1 : Nat)).toNat).take ((s.length : Int).toNat - (Lib.indexByte s c + (1 : Nat)).toNat)), .bool true]⟩ = _
    rw [e1, e2]
theorem cut_x (s : List UInt8) (c : UInt8) (hs : s.length ≤ 1000000) (W : PW) : CallsX Tryz.prog 99 ⟨[strV s, strV [c]]⟩ [] W fun v _ => v = cutV c s := by
  refine pureX hmix Tryz.func99 r99 (by kernel_rfl) [strV s, strV [c]] rfl ?_
  refine call_v rfl (fun W' _ => cut0_x s c hs W') (fun W1 v W2 _ _ hv => ?_)
  obtain ⟨a, b, d, rfl⟩ : ∃ a b d, v = .tuple ⟨[strV a, strV b, .bool d]⟩ := by
    rw [hv]; unfold cutV; split <;> exact ⟨_, _, _, rfl⟩
  refine ⟨_, rfl, _, rfl, _, rfl, ?_⟩
  exact ret_plain rfl fun _ _ => hv
end Go.Proofs.YtcgbcbdgjhnlaaaGreat

namespace Go.Proofs.YtcgbcbdgjhnlaaaGreat
open Go.RowKit

theorem br_f {b : Bool} {X Y : Prop} (h : b = false) (y : Y) : Branch X Y b := by subst h; exact y

theorem cutL_len {c : UInt8} {s a b : List UInt8} (h : cutL c s = some (a, b)) : a.length ≤ s.length ∧ b.length ≤ s.length := by
  have := congrArg List.length (cutL_some h); simp at this; omega
def refM (s : List UInt8) : RefS := match refP s with | some r => r | none => noRef
theorem ref_x (s : List UInt8) (hs : s.length ≤ 1000000) (W : PW) : CallsX Tryz.prog 100 ⟨[strV s]⟩ [] W fun v _ => v = .tuple ⟨[.agg ⟨refC (refM s)⟩, .int .i64 (if (refP s).isSome then 0 else 4)]⟩ := by
  refine pureX hmix Tryz.func100 r100 (by kernel_rfl) [strV s] rfl ?_
  refine call_v rfl (fun W' _ => cut_x s 58 hs W') (fun W1 v W2 _ _ hv => ?_)
  cases hc : cutL 58 s with
  | none =>
    have hv : v = .tuple ⟨[strV s, strV [], .bool false]⟩ := by rw [hv, cutV, hc]
    subst hv
    have e : refP s = none := by rw [refP, hc]
    refine ⟨_, rfl, _, rfl, _, rfl, ?_⟩
    refine ret_plain rfl fun _ _ => ?_
    simp only [refM, e]; (first | done | rfl)
  | some p =>
    obtain ⟨a, b⟩ := p
    obtain ⟨l1, l2⟩ := cutL_len hc
    have hv : v = .tuple ⟨[strV a, strV b, .bool true]⟩ := by rw [hv, cutV, hc]
    subst hv
    refine ⟨_, rfl, _, rfl, _, rfl, ?_⟩
    refine call_v rfl (fun W' _ => checkRef_x ⟨a, b⟩ ⟨by show a.length ≤ _; omega, by show b.length ≤ _; omega⟩ W') (fun W1 v W2 _ _ hv => ?_); subst hv
    refine ⟨rfl, br_nsplit (fun h => ?_) (fun h => ?_)⟩
    · have h := okE_false h
      have e : refP s = none := by rw [refP, hc]; dsimp only; rw [h]; (first | done | rfl)
      refine ret_plain rfl fun _ _ => ?_
      simp only [refM, e]; (first | done | rfl)
    · have h := okE_true h
      have e : refP s = some ⟨a, b⟩ := by rw [refP, hc]; dsimp only; rw [h]; (first | done | rfl)
      refine ret_plain rfl fun _ _ => ?_
      simp only [refM, e]; (first | done | rfl)
end Go.Proofs.YtcgbcbdgjhnlaaaGreat

namespace Go.Proofs.YtcgbcbdgjhnlaaaGreat
open Go.RowKit

theorem wordS_head {s : List UInt8} {c : UInt8} (h : s[0]? = some c) : wordS s = (!decide (s ∈ kept) && (allS wordB s && smallB c)) := by
  cases s with
  | nil => cases h
  | cons d r =>
    simp only [List.getElem?_cons_zero, Option.some.injEq] at h
    subst h; (first | done | rfl)
theorem smallB_iff (c : UInt8) : smallB c = true ↔ 97 ≤ c.toNat ∧ c.toNat ≤ 122 := by simp [smallB]
set_option maxRecDepth 10000 in
theorem refword_xl (s : List UInt8) (hs : s.length ≤ 9223372036854775807) (W : PW) : CallsX Tryz.prog 45 ⟨[strV s]⟩ [] W fun v _ => v = .bool (wordS s) := by
  refine pureX hmix Tryz.func45 r45 (by kernel_rfl) [strV s] rfl ?_
  have lenF : allS wordB s = false → wordS s = false := fun h => by unfold wordS; rw [h]; simp
  refine ⟨rfl, br_split (fun h => ?_) (fun h1 => ?_)⟩
  · have h : (s.length : Int) < 1 := h
    refine ret_plain rfl fun _ _ => ?_
    rw [lenF]
    simp [allS]; omega
  have h1 : ¬ (s.length : Int) < 1 := h1
  refine ⟨rfl, br_split (fun h => ?_) (fun h2 => ?_)⟩
  · have h : (32 : Int) < s.length := h
    refine ret_plain rfl fun _ _ => ?_
    rw [lenF]
    simp [allS]; omega
  have h2 : ¬ (32 : Int) < s.length := h2
  have h00 : (0 : Int) < s.length := by omega
  obtain ⟨c, hc⟩ : ∃ c, s[0]? = some c := ⟨s[0]'(by omega), List.getElem?_eq_getElem (by omega)⟩
  have hb : byteAt s (0 : Int).toNat = c.toNat := byteAt_get hc
  have hws := wordS_head hc
  refine ⟨⟨by omega, h00⟩, ?_⟩
  refine ⟨rfl, ?_⟩
  refine br_split (fun h => ?_) (fun h3 => ?_)
  · have h : byteAt s (0 : Int).toNat < 97 := h
    rw [hb] at h
    refine ret_plain rfl fun _ _ => ?_
    have : smallB c = false := by rw [← Bool.not_eq_true, smallB_iff]; omega
    rw [hws, this]; simp
  have h3 : ¬ byteAt s (0 : Int).toNat < 97 := h3
  rw [hb] at h3
  refine ⟨⟨by omega, h00⟩, ?_⟩
  refine ⟨rfl, ?_⟩
  refine br_split (fun h => ?_) (fun h4 => ?_)
  · have h : (122 : Int) < byteAt s (0 : Int).toNat := h
    rw [hb] at h
    refine ret_plain rfl fun _ _ => ?_
    have : smallB c = false := by rw [← Bool.not_eq_true, smallB_iff]; omega
    rw [hws, this]; simp
  have h4 : ¬ (122 : Int) < byteAt s (0 : Int).toNat := h4
  rw [hb] at h4
  have hsm : smallB c = true := by rw [smallB_iff]; omega
  refine ⟨Nat, fun i => [(3, .v (.int .i64 i))], fun _ => [], fun _ => [], fun i _ => i ≤ s.length ∧ s.all wordB = (s.drop i).all wordB, fun i => s.length - i, 0,
    all_sl ⟨rfl, trivial⟩, rfl, ole_refl _, ⟨Nat.zero_le _, rfl⟩, loopOK (fun _ => ⟨⟨trivial, rfl⟩, trivial⟩) (fun _ => rfl) (fun _ => rfl), ?_⟩
  intro i W1 l1 ⟨hi, hI⟩ f
  refine ⟨rfl, br_split (fun h => ?_) (fun h => ?_)⟩
  · have h : (i : Int) < s.length := h
    have hil : i < s.length := by omega
    have hb : byteAt s (i : Int).toNat = (s[i]).toNat := byteAt_get (List.getElem?_eq_getElem hil)
    rw [List.drop_eq_getElem_cons hil, List.all_cons] at hI
    refine ⟨⟨by omega, h⟩, ?_⟩
    have no : wordB s[i] = false → wordS s = false := fun h => lenF (by rw [allS, hI, h]; (first | done | rfl))
    have go : wordB s[i] = true → s.all wordB = (s.drop (i + 1)).all wordB := fun h => by rw [hI, h]; simp
    have inc := (i64_in ((i : Int) + 1) ⟨by omega, by omega⟩).symm
    generalize s[i] = d at hb no go
    refine ⟨rfl, ?_⟩
    repeat' first
      | refine ⟨rfl, _, inc, i + 1, all_sl ⟨rfl, trivial⟩, rfl, ole_refl _, ⟨by omega, go ?_⟩, by dsimp only; omega⟩
      | refine ⟨rfl, ?_⟩
      | refine br_split (fun h => ?_) (fun h => ?_)
      | refine br_nsplit (fun h => ?_) (fun h => ?_)
      | refine ret_plain rfl fun _ _ => ?_
    all_goals simp only [hb] at *
    all_goals first
      | (rw [no]; simp only [wordB, smallB, figB, Bool.or_eq_false_iff, Bool.and_eq_false_iff, decide_eq_false_iff_not]; omega)
      | (simp only [wordB, smallB, figB, Bool.or_eq_true, Bool.and_eq_true, decide_eq_true_eq]; omega)
  · have h : ¬ (i : Int) < s.length := h
    rw [List.drop_eq_nil_of_le (by omega)] at hI
    have hall : allS wordB s = true := by
      rw [allS, hI]; simp; omega
    have hw : wordS s = !decide (s ∈ kept) := by rw [hws, hall, hsm]; simp
    repeat' first
      | refine br_nsplit (fun h => ?_) (fun h => ?_)
      | refine ret_plain rfl fun _ _ => ?_
    all_goals (rw [hw]; congr 1; rw [Bool.eq_iff_iff]; simp only [kept, List.mem_cons, List.not_mem_nil, or_false, Bool.not_eq_true', decide_eq_false_iff_not, not_or]; dsimp only at *; simp_all)
end Go.Proofs.YtcgbcbdgjhnlaaaGreat

namespace Go.Proofs.YtcgbcbdgjhnlaaaGreat
open Go.RowKit

end Go.Proofs.YtcgbcbdgjhnlaaaGreat
