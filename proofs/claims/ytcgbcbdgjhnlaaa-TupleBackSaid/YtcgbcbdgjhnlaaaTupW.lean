/- The program's functions of layer 11, walked. -/
import Derived.Test.YtcgbcbdgjhnlaaaCodeT
import Derived.Test.YtcgbcbdgjhnlaaaLexV
import Derived.Test.YtcgbcbdgjhnlaaaTupL
namespace Go.Proofs.Ytcgbcbdgjhnlaaa
open Go.RowKit

theorem small_x : PredB 90 smallB := by
  intro c W
  refine pureX hmix Try.func90 r90 (by kernel_rfl) [.int .u8 c.toNat] rfl ?_
  refine ⟨rfl, ?_⟩
  repeat' first
    | refine ⟨rfl, ?_⟩
    | refine br_split (fun h => ?_) (fun h => ?_)
    | refine ret_plain rfl fun _ _ => ?_
  all_goals (congr 1; rw [Bool.eq_iff_iff]; simp only [smallB, Bool.and_eq_true, decide_eq_true_eq, Bool.false_eq_true, false_iff]; omega)
theorem figure_x : PredB 91 figB := by
  intro c W
  refine pureX hmix Try.func91 r91 (by kernel_rfl) [.int .u8 c.toNat] rfl ?_
  refine ⟨rfl, ?_⟩
  repeat' first
    | refine ⟨rfl, ?_⟩
    | refine br_split (fun h => ?_) (fun h => ?_)
    | refine ret_plain rfl fun _ _ => ?_
  all_goals (congr 1; rw [Bool.eq_iff_iff]; simp only [figB, Bool.or_eq_true, Bool.and_eq_true, decide_eq_true_eq, true_iff]; omega)
theorem wordb_x : PredB 89 wordB := by
  intro c W
  refine pureX hmix Try.func89 r89 (by kernel_rfl) [.int .u8 c.toNat] rfl ?_
  refine call_v rfl (fun W' _ => small_x c W') (fun W1 v W2 _ _ h => ?_); subst h
  refine br_bool (fun h1 => ?_) (fun h1 => ?_)
  · refine ret_plain rfl fun _ _ => ?_
    simp [wordB, h1]
  · refine call_v rfl (fun W' _ => figure_x c W') (fun W1 v W2 _ _ h => ?_); subst h
    refine ret_plain rfl fun _ _ => ?_
    simp [wordB, h1]
theorem idb_x : PredB 92 idB := by
  intro c W
  refine pureX hmix Try.func92 r92 (by kernel_rfl) [.int .u8 c.toNat] rfl ?_
  have fin : ∀ b1 b2 : Bool, smallB c = b1 → (b1 = false → figB c = b2) → True := fun _ _ _ _ => trivial
  refine call_v rfl (fun W' _ => small_x c W') (fun W1 v W2 _ _ h => ?_); subst h
  refine br_bool (fun h1 => ?_) (fun h1 => ?_)
  · refine ret_plain rfl fun _ _ => ?_
    simp [idB, h1]
  · refine call_v rfl (fun W' _ => figure_x c W') (fun W1 v W2 _ _ h => ?_); subst h
    refine br_bool (fun h2 => ?_) (fun h2 => ?_)
    · refine ret_plain rfl fun _ _ => ?_
      simp [idB, h1, h2]
    · refine ⟨rfl, ?_⟩
      repeat' first
        | refine ⟨rfl, ?_⟩
        | refine br_split (fun h => ?_) (fun h => ?_)
        | refine ret_plain rfl fun _ _ => ?_
      all_goals (congr 1; rw [Bool.eq_iff_iff]; simp only [idB, h1, h2, Bool.or_eq_true, Bool.and_eq_true, decide_eq_true_eq, Bool.false_eq_true, true_iff, false_or]; omega)

theorem all_x {p : UInt8 → Bool} {fid : FuncId} (hp : PredB fid p) (s : List UInt8) (hs : s.length ≤ 1000000) (W : PW) :
    CallsX Try.prog 88 ⟨[strV s, .func (.func fid) #[] #[]]⟩ [] W fun v _ => v = .bool (allS p s) := by
  refine pureX hmix Try.func88 r88 (by kernel_rfl) [strV s, .func (.func fid) #[] #[]] rfl ?_
  refine ⟨Nat, fun i => [(8, .v (.int .i64 i))], fun _ => [], fun _ => [], fun i _ => i ≤ s.length ∧ s.all p = (s.drop i).all p, fun i => s.length - i, 0,
    all_sl ⟨rfl, trivial⟩, rfl, ole_refl _, ⟨Nat.zero_le _, rfl⟩, loopOK (fun _ => ⟨⟨trivial, rfl⟩, trivial⟩) (fun _ => rfl) (fun _ => rfl), ?_⟩
  intro i W1 l1 ⟨hi, hI⟩ f
  refine ⟨rfl, br_split (fun h => ?_) (fun h => ?_)⟩
  · have h : (i : Int) < s.length := h
    have hil : i < s.length := by omega
    have hb : byteAt s (i : Int).toNat = (s[i]).toNat := byteAt_get (List.getElem?_eq_getElem hil)
    rw [List.drop_eq_getElem_cons hil, List.all_cons] at hI
    refine ⟨⟨by omega, h⟩, ?_⟩
    refine call_v rfl (R := fun _ v _ => v = .bool (p s[i])) (fun W' _ => (congrArg (fun x => CallsX Try.prog fid ⟨[.int .u8 x]⟩ [] W' fun v _ => v = .bool (p s[i])) hb).mpr (hp _ W')) (fun W2 v W3 _ _ hv => ?_)
    subst hv
    generalize p s[i] = b at hI
    cases b
    · refine ret_plain rfl fun _ _ => ?_
      simp [allS, hI]
    · refine ⟨rfl, _, (i64_in ((i : Int) + 1) ⟨by omega, by omega⟩).symm, i + 1, all_sl ⟨rfl, trivial⟩, rfl, ole_refl _, ⟨by omega, by simpa using hI⟩, by dsimp only; omega⟩
  · have h : ¬ (i : Int) < s.length := h
    rw [List.drop_eq_nil_of_le (by omega)] at hI
    refine ⟨rfl, br_split (fun h1 => ?_) (fun h1 => ?_)⟩
    · have h1 : (1 : Int) ≤ s.length := h1
      refine ⟨rfl, ret_plain rfl fun _ _ => ?_⟩
      show Value.bool (decide ((s.length : Int) ≤ 32)) = _
      congr 1
      rw [allS, hI, Bool.eq_iff_iff]
      simp; omega
    · have h1 : ¬ (1 : Int) ≤ s.length := h1
      refine ret_plain rfl fun _ _ => ?_
      congr 1
      rw [allS, Bool.eq_iff_iff]
      simp; omega
theorem word_x (s : List UInt8) (hs : s.length ≤ 1000000) (W : PW) : CallsX Try.prog 37 ⟨[strV s]⟩ [] W fun v _ => v = .bool (wordS s) := by
  refine pureX hmix Try.func37 r37 (by kernel_rfl) [strV s] rfl ?_
  have no : s ∈ kept → wordS s = false := fun h => by simp [wordS, h]
  refine br_split (fun h0 => ?_) (fun h1 => ?_)
  · have h : s = [117, 115, 101, 114] := h0
    refine br_yes h0 ?_
    refine ret_plain rfl fun _ _ => ?_
    rw [no (by rw [h]; simp [kept])]
  refine br_split (fun h0 => ?_) (fun h2 => ?_)
  · have h : s = [116, 104, 105, 115] := h0
    refine br_yes h0 ?_
    refine ret_plain rfl fun _ _ => ?_
    rw [no (by rw [h]; simp [kept])]
  refine br_split (fun h0 => ?_) (fun h3 => ?_)
  · have h : s = [110, 97, 109, 101, 115, 112, 97, 99, 101] := h0
    refine br_yes h0 ?_
    refine ret_plain rfl fun _ _ => ?_
    rw [no (by rw [h]; simp [kept])]
  refine br_split (fun h0 => ?_) (fun h4 => ?_)
  · have h : s = [114, 101, 108, 97, 116, 105, 111, 110] := h0
    refine br_yes h0 ?_
    refine ret_plain rfl fun _ _ => ?_
    rw [no (by rw [h]; simp [kept])]
  refine br_split (fun h0 => ?_) (fun h5 => ?_)
  · have h : s = [115, 99, 111, 112, 101] := h0
    refine ret_plain rfl fun _ _ => ?_
    rw [no (by rw [h]; simp [kept])]
  have hk : ¬ s ∈ kept := by
    intro h
    simp only [kept, List.mem_cons, List.not_mem_nil, or_false] at h
    rcases h with h | h | h | h | h
    · exact h1 h
    · exact h2 h
    · exact h3 h
    · exact h4 h
    · exact h5 h
  refine call_v rfl (fun W' _ => all_x wordb_x s hs W') (fun W1 v W2 _ _ h => ?_); subst h
  refine br_bool (fun h6 => ?_) (fun h6 => ?_)
  · cases s with
    | nil => cases h6
    | cons c r =>
      refine ⟨⟨by omega, by show (0 : Int) < (((c :: r).length : Nat) : Int); simp⟩, ?_⟩
      refine call_v rfl (fun W' _ => small_x c W') (fun W1 v W2 _ _ h => ?_); subst h
      refine ret_plain rfl fun _ _ => ?_
      congr 1
      rw [wordS, h6]; simp [hk]
  · refine ret_plain rfl fun _ _ => ?_
    congr 1
    unfold wordS; rw [h6]; simp
theorem id_x (s : List UInt8) (hs : s.length ≤ 1000000) (W : PW) : CallsX Try.prog 39 ⟨[strV s]⟩ [] W fun v _ => v = .bool (idS s) := by
  refine pureX hmix Try.func39 r39 (by kernel_rfl) [strV s] rfl ?_
  refine call_v rfl (fun W' _ => all_x idb_x s hs W') (fun W1 v W2 _ _ h => ?_); subst h
  exact ret_plain rfl fun _ _ => rfl
theorem name_x (b : Bool) (W : PW) : CallsX Try.prog 93 ⟨[.bool b]⟩ [] W fun v _ => v = .int .i64 (if b then 0 else 9) := by
  refine pureX hmix Try.func93 r93 (by kernel_rfl) [.bool b] rfl ?_
  cases b
  · exact ret_plain rfl fun _ _ => rfl
  · exact ret_plain rfl fun _ _ => rfl

def refC (r : RefS) : List Value := [strV r.space, strV r.id]
def subC (s : SubS) : List Value := [strV s.user, strV s.set.space, strV s.set.id, strV s.rel]
def tupC (t : TupS) : List Value := [strV t.object.space, strV t.object.id, strV t.rel, strV t.subject.user, strV t.subject.set.space, strV t.subject.set.id, strV t.subject.rel]
/-- No text of it is too long. -/
def RefS.small (r : RefS) : Prop := r.space.length ≤ 1000000 ∧ r.id.length ≤ 1000000
def SubS.small (s : SubS) : Prop := s.user.length ≤ 1000000 ∧ s.set.small ∧ s.rel.length ≤ 1000000
def TupS.small (t : TupS) : Prop := t.object.small ∧ t.rel.length ≤ 1000000 ∧ t.subject.small
def okE (b : Bool) : Int := if b then 0 else 9
theorem okE_eq (b : Bool) : decide (okE b = 0) = b := by cases b <;> rfl
theorem checkRef_x (r : RefS) (h : r.small) (W : PW) : CallsX Try.prog 43 ⟨[.agg ⟨refC r⟩]⟩ [] W fun v _ => v = .int .i64 (okE (isRefS r)) := by
  refine pureX hmix Try.func43 r43 (by kernel_rfl) [.agg ⟨refC r⟩] rfl ?_
  refine call_v rfl (fun W' _ => word_x r.space h.1 W') (fun W1 v W2 _ _ hv => ?_); subst hv
  refine br_bool (fun h1 => ?_) (fun h1 => ?_)
  · refine call_v rfl (fun W' _ => id_x r.id h.2 W') (fun W1 v W2 _ _ hv => ?_); subst hv
    refine call_v rfl (fun W' _ => name_x _ W') (fun W1 v W2 _ _ hv => ?_); subst hv
    refine ret_plain rfl fun _ _ => ?_
    rw [isRefS, h1]; rfl
  · refine call_v rfl (fun W' _ => name_x _ W') (fun W1 v W2 _ _ hv => ?_); subst hv
    refine ret_plain rfl fun _ _ => ?_
    rw [isRefS, h1]; rfl
theorem eqSub : EqOK Try.prog 48 [48, 42] := ⟨Try.eqGuardType48, fun s hs => by
  simp only [List.mem_cons, List.not_mem_nil, or_false] at hs
  rcases hs with rfl | rfl
  · exact Try.stoodInHeld48
  · exact Try.stoodInHeld42⟩
theorem checkSubject_x (s : SubS) (h : s.small) (W : PW) : CallsX Try.prog 45 ⟨[.agg ⟨subC s⟩]⟩ [] W fun v _ => v = .int .i64 (okE (isSubS s)) := by
  refine pureX hmix Try.func45 r45 (by kernel_rfl) [.agg ⟨subC s⟩] rfl ?_
  obtain ⟨hu, hset, hr⟩ := h
  obtain ⟨u, ⟨sp, id⟩, rel⟩ := s
  refine br_nsplit (fun h0 => ?_) (fun h0 => ?_)
  · have h0 : ¬ u = [] := h0
    refine call_v rfl (fun W' _ => id_x u hu W') (fun W1 v W2 _ _ hv => ?_); subst hv
    refine br_bool (fun h1 => ?_) (fun h1 => ?_)
    · refine ⟨eqSub, ?_⟩
      refine call_v rfl (fun W' _ => name_x _ W') (fun W1 v W2 _ _ hv => ?_); subst hv
      refine ret_plain rfl fun _ _ => ?_
      congr 1
      simp only [isSubS, h0, if_false, h1, Bool.true_and, okE]
      congr 1
      rw [eq_iff_iff]
      simp [noRef, and_assoc]
    · refine call_v rfl (fun W' _ => name_x _ W') (fun W1 v W2 _ _ hv => ?_); subst hv
      refine ret_plain rfl fun _ _ => ?_
      simp only [isSubS, h0, if_false, h1, Bool.false_and]; rfl
  · have h0 : u = [] := h0
    refine call_v rfl (fun W' _ => checkRef_x ⟨sp, id⟩ hset W') (fun W1 v W2 _ _ hv => ?_); subst hv
    refine ⟨rfl, br_split (fun h1 => ?_) (fun h1 => ?_)⟩
    · have h1 : isRefS ⟨sp, id⟩ = true := by have := okE_eq (isRefS ⟨sp, id⟩); rw [← this]; exact decide_eq_true h1
      refine call_v rfl (fun W' _ => word_x rel hr W') (fun W1 v W2 _ _ hv => ?_); subst hv
      refine call_v rfl (fun W' _ => name_x _ W') (fun W1 v W2 _ _ hv => ?_); subst hv
      refine ret_plain rfl fun _ _ => ?_
      simp only [isSubS, h0, if_true, h1, Bool.true_and]; rfl
    · have h1 : isRefS ⟨sp, id⟩ = false := by have := okE_eq (isRefS ⟨sp, id⟩); rw [← this]; exact decide_eq_false h1
      refine call_v rfl (fun W' _ => name_x _ W') (fun W1 v W2 _ _ hv => ?_); subst hv
      refine ret_plain rfl fun _ _ => ?_
      simp only [isSubS, h0, if_true, h1, Bool.false_and]; rfl
theorem okE_true {b : Bool} (h : okE b = 0) : b = true := by cases b <;> first | rfl | cases h
theorem okE_false {b : Bool} (h : ¬ okE b = 0) : b = false := by cases b <;> first | rfl | exact absurd rfl h
theorem check_x (t : TupS) (h : t.small) (W : PW) : CallsX Try.prog 41 ⟨[.agg ⟨tupC t⟩]⟩ [] W fun v _ => v = .int .i64 (okE (isTupS t)) := by
  refine pureX hmix Try.func41 r41 (by kernel_rfl) [.agg ⟨tupC t⟩] rfl ?_
  obtain ⟨ho, hr, hs⟩ := h
  refine call_v rfl (fun W' _ => checkRef_x t.object ho W') (fun W1 v W2 _ _ hv => ?_); subst hv
  refine ⟨rfl, br_split (fun h1 => ?_) (fun h1 => ?_)⟩
  · have h1 := okE_true h1
    refine call_v rfl (fun W' _ => word_x t.rel hr W') (fun W1 v W2 _ _ hv => ?_); subst hv
    refine br_bool (fun h2 => ?_) (fun h2 => ?_)
    · refine call_v rfl (fun W' _ => checkSubject_x t.subject hs W') (fun W1 v W2 _ _ hv => ?_); subst hv
      refine ⟨rfl, ?_⟩
      refine call_v rfl (fun W' _ => name_x _ W') (fun W1 v W2 _ _ hv => ?_); subst hv
      refine ret_plain rfl fun _ _ => ?_
      rw [okE_eq, isTupS, h1, h2]; rfl
    · refine call_v rfl (fun W' _ => name_x _ W') (fun W1 v W2 _ _ hv => ?_); subst hv
      refine ret_plain rfl fun _ _ => ?_
      rw [isTupS, h1, h2]; rfl
  · have h1 := okE_false h1
    refine call_v rfl (fun W' _ => name_x _ W') (fun W1 v W2 _ _ hv => ?_); subst hv
    refine ret_plain rfl fun _ _ => ?_
    rw [isTupS, h1]; rfl

/-! ### Texts -/
theorem cutL_idx (c : UInt8) : ∀ s : List UInt8, match cutL c s with | some (a, _) => Lib.indexByte s c = a.length | none => Lib.indexByte s c = -1
  | [] => rfl
  | x :: r => by
    have ih := cutL_idx c r
    simp only [cutL, Lib.indexByte]
    by_cases h : x = c
    · simp [h]
    · have hb : (x == c) = false := by simp [h]
      rw [if_neg h, hb]
      cases hc : cutL c r with
      | none =>
        rw [hc] at ih
        simp only at ih
        simp [ih]
      | some p =>
        obtain ⟨a, b⟩ := p
        rw [hc] at ih
        simp only at ih
        have : ¬ Lib.indexByte r c = -1 := by omega
        have h2 : (Lib.indexByte r c == -1) = false := by simp [this]
        simp only [Bool.false_eq_true, if_false, ih, List.length_cons]
        push_cast; rfl
theorem index1_x (s : List UInt8) (c : UInt8) (W : PW) : CallsX Try.prog 162 ⟨[strV s, strV [c]]⟩ [] W fun v _ => v = .int .i64 (Lib.indexByte s c) :=
  CallsX.of_same ⟨_, Try.func162, by kernel_rfl, by kernel_rfl⟩ (Try.stringslite_Index_one ⟨⟨s⟩⟩ c W.w)
def cutV (c : UInt8) (s : List UInt8) : Value := match cutL c s with
  | some (a, b) => .tuple ⟨[strV a, strV b, .bool true]⟩
  | none => .tuple ⟨[strV s, strV [], .bool false]⟩
theorem cut0_x (s : List UInt8) (c : UInt8) (hs : s.length ≤ 1000000) (W : PW) : CallsX Try.prog 135 ⟨[strV s, strV [c]]⟩ [] W fun v _ => v = cutV c s := by
  refine pureX hmix Try.func135 r135 (by kernel_rfl) [strV s, strV [c]] rfl ?_
  refine call_v rfl (fun W' _ => index1_x s c W') (fun W1 v W2 _ _ hv => ?_); subst hv
  have hi := cutL_idx c s
  unfold cutV
  cases hc : cutL c s with
  | none =>
    rw [hc] at hi
    refine ⟨rfl, br_no (by show ¬ (0 : Int) ≤ _; rw [hi]; decide) ?_⟩
    exact ret_plain rfl fun _ _ => rfl
  | some p =>
    obtain ⟨a, b⟩ := p
    rw [hc] at hi
    have hsp := cutL_some hc
    have hl : s.length = a.length + 1 + b.length := by rw [hsp]; simp; omega
    have hi : Lib.indexByte s c = a.length := hi
    refine ⟨rfl, br_yes (by show (0 : Int) ≤ _; omega) ?_⟩
    refine ⟨⟨by omega, by omega, by show Lib.indexByte s c ≤ (s.length : Int); omega⟩, rfl, _, (i64_in (Lib.indexByte s c + (1 : Nat)) ⟨by omega, by omega⟩).symm, ⟨by omega, by show Lib.indexByte s c + (1 : Nat) ≤ (s.length : Int); omega, Int.le_refl _⟩, ?_⟩
    refine ret_plain rfl fun _ _ => ?_
    have e1 : (s.drop (0 : Int).toNat).take ((Lib.indexByte s c).toNat - (0 : Int).toNat) = a := by
      rw [hi, hsp]; simp
    have e2 : (s.drop (Lib.indexByte s c + (1 : Nat)).toNat).take ((s.length : Int).toNat - (Lib.indexByte s c + (1 : Nat)).toNat) = b := by
      have hd : s.drop (Lib.indexByte s c + (1 : Nat)).toNat = b := by
        rw [hi, show ((a.length : Int) + (1 : Nat)).toNat = a.length + 1 by omega, hsp, ← List.drop_drop, List.drop_left]; rfl
      rw [hd, List.take_of_length_le]
      rw [← hd]; simp
    show Value.tuple ⟨[strV ((s.drop (0 : Int).toNat).take ((Lib.indexByte s c).toNat - (0 : Int).toNat)), strV ((s.drop (Lib.indexByte s c + (1 : Nat)).toNat).take ((s.length : Int).toNat - (Lib.indexByte s c + (1 : Nat)).toNat)), .bool true]⟩ = _
    rw [e1, e2]
theorem cut_x (s : List UInt8) (c : UInt8) (hs : s.length ≤ 1000000) (W : PW) : CallsX Try.prog 85 ⟨[strV s, strV [c]]⟩ [] W fun v _ => v = cutV c s := by
  refine pureX hmix Try.func85 r85 (by kernel_rfl) [strV s, strV [c]] rfl ?_
  refine call_v rfl (fun W' _ => cut0_x s c hs W') (fun W1 v W2 _ _ hv => ?_)
  obtain ⟨a, b, d, rfl⟩ : ∃ a b d, v = .tuple ⟨[strV a, strV b, .bool d]⟩ := by
    rw [hv]; unfold cutV; split <;> exact ⟨_, _, _, rfl⟩
  refine ⟨_, rfl, _, rfl, _, rfl, ?_⟩
  exact ret_plain rfl fun _ _ => hv
end Go.Proofs.Ytcgbcbdgjhnlaaa
