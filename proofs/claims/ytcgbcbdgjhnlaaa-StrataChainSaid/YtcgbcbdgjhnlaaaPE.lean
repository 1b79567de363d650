/- Layer 11 (tuple): plain laws, the program's functions and the document's, walked. -/
import Derived.Test.YtcgbcbdgjhnlaaaPD
import Derived.Test.YtcgbcbdgjhnlaaaPC
namespace Go.Proofs.Ytcgbcbdgjhnlaaa
/-! ## Words, ids, texts of tuples -/
def smallB (c : UInt8) : Bool := decide (97 ≤ c.toNat) && decide (c.toNat ≤ 122)
def figB (c : UInt8) : Bool := (decide (48 ≤ c.toNat) && decide (c.toNat ≤ 57)) || decide (c.toNat = 95)
def wordB (c : UInt8) : Bool := smallB c || figB c
def idB (c : UInt8) : Bool := smallB c || figB c || (decide (65 ≤ c.toNat) && decide (c.toNat ≤ 90)) || decide (c.toNat = 46) || decide (c.toNat = 45)
def kept : List (List UInt8) := [[117, 115, 101, 114], [116, 104, 105, 115], [110, 97, 109, 101, 115, 112, 97, 99, 101], [114, 101, 108, 97, 116, 105, 111, 110], [115, 99, 111, 112, 101]]
def allS (p : UInt8 → Bool) (s : List UInt8) : Bool := s.all p && (decide (1 ≤ s.length) && decide (s.length ≤ 32))
def wordS (s : List UInt8) : Bool := !decide (s ∈ kept) && (allS wordB s && match s with | c :: _ => smallB c | [] => false)
def idS (s : List UInt8) : Bool := allS idB s
def cutL (c : UInt8) : List UInt8 → Option (List UInt8 × List UInt8)
  | [] => none
  | x :: r => if x = c then some ([], r) else match cutL c r with | some (a, b) => some (x :: a, b) | none => none
structure RefS where
  space : List UInt8
  id : List UInt8
  deriving DecidableEq
structure SubS where
  user : List UInt8
  set : RefS
  rel : List UInt8
  deriving DecidableEq
structure TupS where
  object : RefS
  rel : List UInt8
  subject : SubS
  deriving DecidableEq
def noRef : RefS := ⟨[], []⟩
def noSub : SubS := ⟨[], noRef, []⟩
def noTup : TupS := ⟨noRef, [], noSub⟩
def isRefS (r : RefS) : Bool := wordS r.space && idS r.id
def isSubS (s : SubS) : Bool := if s.user = [] then isRefS s.set && wordS s.rel else idS s.user && decide (s = ⟨s.user, noRef, []⟩)
def isTupS (t : TupS) : Bool := isRefS t.object && wordS t.rel && isSubS t.subject
def refT (r : RefS) : List UInt8 := r.space ++ 58 :: r.id
def subT (s : SubS) : List UInt8 := if s.user = [] then refT s.set ++ 35 :: s.rel else s.user
def tupT (t : TupS) : List UInt8 := refT t.object ++ 35 :: (t.rel ++ 64 :: subT t.subject)
def refP (s : List UInt8) : Option RefS := match cutL 58 s with | some (a, b) => if isRefS ⟨a, b⟩ then some ⟨a, b⟩ else none | none => none
def setP (s : List UInt8) : Option (RefS × List UInt8) := match cutL 35 s with
  | some (a, b) => match refP a with | some r => if wordS b then some (r, b) else none | none => none
  | none => none
def subP (s : List UInt8) : Option SubS := if idS s then some ⟨s, noRef, []⟩ else match setP s with | some (r, b) => some ⟨[], r, b⟩ | none => none
def tupP (s : List UInt8) : Option TupS := match cutL 64 s with
  | some (a, b) => match setP a, subP b with | some (r, rel), some u => some ⟨r, rel, u⟩ | _, _ => none
  | none => none

theorem cutL_some {c : UInt8} : ∀ {s a b : List UInt8}, cutL c s = some (a, b) → s = a ++ c :: b
  | x :: r, a, b, h => by
    simp only [cutL] at h
    split at h
    · rename_i hx
      simp only [Option.some.injEq, Prod.mk.injEq] at h
      obtain ⟨rfl, rfl⟩ := h; rw [hx]; (first | done | rfl)
    · split at h
      · rename_i a' b' hr
        simp only [Option.some.injEq, Prod.mk.injEq] at h
        obtain ⟨rfl, rfl⟩ := h; rw [cutL_some hr]; (first | done | rfl)
      · cases h
theorem cutL_app {c : UInt8} (b : List UInt8) : ∀ {a : List UInt8}, c ∉ a → cutL c (a ++ c :: b) = some (a, b)
  | [], _ => by simp [cutL]
  | x :: a, h => by
    have h1 : ¬ x = c := fun e => h (e ▸ List.mem_cons_self ..)
    have h2 := cutL_app (c := c) b (a := a) fun e => h (List.mem_cons_of_mem _ e)
    simp [cutL, h1, h2]
theorem allS_no {p : UInt8 → Bool} {c : UInt8} (hp : p c = false) {s : List UInt8} (h : allS p s = true) : c ∉ s := by
  intro hc
  simp only [allS, Bool.and_eq_true, List.all_eq_true] at h
  have := h.1 c hc
  rw [hp] at this; cases this
theorem wordS_all {s : List UInt8} (h : wordS s = true) : allS wordB s = true := by
  simp only [wordS, Bool.and_eq_true] at h; exact h.2.1
theorem isRef_no {c : UInt8} (h1 : idB c = false) (h2 : wordB c = false) (h3 : c ≠ 58) {r : RefS} (h : isRefS r = true) : c ∉ refT r := by
  simp only [isRefS, Bool.and_eq_true] at h
  intro hc
  simp only [refT, List.mem_append, List.mem_cons] at hc
  rcases hc with hc | hc | hc
  · exact allS_no h2 (wordS_all h.1) hc
  · exact h3 hc
  · exact allS_no h1 h.2 hc
theorem refP_text {r : RefS} (h : isRefS r = true) : refP (refT r) = some r := by
  have h' := h
  simp only [isRefS, Bool.and_eq_true] at h'
  simp only [refP, refT, cutL_app r.id (allS_no (c := 58) (by decide) (wordS_all h'.1)), h, if_true]
theorem setP_text {r : RefS} {b : List UInt8} (h : isRefS r = true) (hb : wordS b = true) : setP (refT r ++ 35 :: b) = some (r, b) := by
  simp only [setP, cutL_app b (isRef_no (c := 35) (by decide) (by decide) (by decide) h), refP_text h, hb, if_true]
theorem nonempty_of_idS {s : List UInt8} (h : idS s = true) : ¬ s = [] := by
  rintro rfl; revert h; decide
theorem subP_text {s : SubS} (h : isSubS s = true) : subP (subT s) = some s := by
  simp only [isSubS] at h
  split at h
  · rename_i hu
    simp only [Bool.and_eq_true] at h
    have hn : idS (refT s.set ++ 35 :: s.rel) = false := by
      cases hi : idS (refT s.set ++ 35 :: s.rel) with
      | false => rfl
      | true => exact absurd (List.mem_append_right _ (List.mem_cons_self ..)) (allS_no (c := 35) (by decide) hi)
    simp only [subP, subT, hu, if_true, hn, Bool.false_eq_true, if_false, setP_text h.1 h.2]
    obtain ⟨u, r, b⟩ := s
    simp only at hu; subst hu; (first | done | rfl)
  · rename_i hu
    simp only [Bool.and_eq_true, decide_eq_true_eq] at h
    simp only [subP, subT, hu, if_false, h.1, if_true]
    rw [← h.2]
theorem tupP_text {t : TupS} (h : isTupS t = true) : tupP (tupT t) = some t := by
  simp only [isTupS, Bool.and_eq_true] at h
  have e : tupT t = (refT t.object ++ 35 :: t.rel) ++ 64 :: subT t.subject := by simp [tupT]
  have hn : (64 : UInt8) ∉ refT t.object ++ 35 :: t.rel := by
    intro hc
    simp only [List.mem_append, List.mem_cons] at hc
    rcases hc with hc | hc | hc
    · exact isRef_no (c := 64) (by decide) (by decide) (by decide) h.1.1 hc
    · revert hc; decide
    · exact allS_no (c := 64) (by decide) (wordS_all h.1.2) hc
  simp only [tupP, e, cutL_app _ hn, setP_text h.1.1 h.1.2, subP_text h.2]
theorem refP_some {s : List UInt8} {r : RefS} (h : refP s = some r) : refT r = s ∧ isRefS r = true := by
  simp only [refP] at h
  split at h
  · rename_i a b hc
    split at h
    · rename_i hr
      simp only [Option.some.injEq] at h; subst h
      exact ⟨(cutL_some hc).symm, hr⟩
    · cases h
  · cases h
theorem setP_some {s b : List UInt8} {r : RefS} (h : setP s = some (r, b)) : refT r ++ 35 :: b = s ∧ isRefS r = true ∧ wordS b = true := by
  simp only [setP] at h
  split at h
  · rename_i a b' hc
    split at h
    · rename_i r' hr
      split at h
      · rename_i hw
        simp only [Option.some.injEq, Prod.mk.injEq] at h
        obtain ⟨rfl, rfl⟩ := h
        obtain ⟨h1, h2⟩ := refP_some hr
        exact ⟨by rw [h1, ← cutL_some hc], h2, hw⟩
      · cases h
    · cases h
  · cases h
theorem subP_some {s : List UInt8} {u : SubS} (h : subP s = some u) : subT u = s ∧ isSubS u = true := by
  simp only [subP] at h
  split at h
  · rename_i hi
    simp only [Option.some.injEq] at h; subst h
    have hn := nonempty_of_idS hi
    exact ⟨by simp only [subT, hn, if_false], by simp only [isSubS, hn, if_false, hi, Bool.true_and, decide_true]⟩
  · split at h
    · rename_i r b hs
      simp only [Option.some.injEq] at h; subst h
      obtain ⟨h1, h2, h3⟩ := setP_some hs
      exact ⟨by simp only [subT, if_true, h1], by simp only [isSubS, if_true, h2, h3, Bool.and_true]⟩
    · cases h
theorem tupP_some {s : List UInt8} {t : TupS} (h : tupP s = some t) : tupT t = s ∧ isTupS t = true := by
  simp only [tupP] at h
  split at h
  · rename_i a b hc
    split at h
    · rename_i r rel u hs hu
      simp only [Option.some.injEq] at h; subst h
      obtain ⟨h1, h2, h3⟩ := setP_some hs
      obtain ⟨h4, h5⟩ := subP_some hu
      refine ⟨?_, by simp only [isTupS, h2, h3, h5, Bool.and_true]⟩
      rw [cutL_some hc, ← h1, ← h4]
      simp [tupT]
    · cases h
  · cases h
theorem tupT_inj {t u : TupS} (ht : isTupS t = true) (hu : isTupS u = true) : tupT t = tupT u ↔ t = u :=
  ⟨fun h => by have := tupP_text ht; rw [h, tupP_text hu] at this; exact (Option.some.inj this).symm, fun h => h ▸ rfl⟩
end Go.Proofs.Ytcgbcbdgjhnlaaa

namespace Go.Proofs.Ytcgbcbdgjhnlaaa
open Go.RowKit

theorem small_x : PredB 90 smallB := by
  intro c W
  refine pureX hmix Try.func90 r90 (by kernel_rfl) [.int .u8 c.toNat] rfl ?_
  refine ⟨rfl, ?_⟩
  repeat' first
    | refine ⟨rfl, ?_⟩
    | refine br_split (fun h => ?_) (fun h => ?_)
    | refine ret_plain rfl fun _ _ => ?_
  all_goals (congr 1; rw [Bool.eq_iff_iff]; simp only [smallB, Bool.and_eq_true, decide_eq_true_eq, Bool.false_eq_true, false_iff]; omega)
theorem figure_x : PredB 91 figB := by
  intro c W
  refine pureX hmix Try.func91 r91 (by kernel_rfl) [.int .u8 c.toNat] rfl ?_
  refine ⟨rfl, ?_⟩
  repeat' first
    | refine ⟨rfl, ?_⟩
    | refine br_split (fun h => ?_) (fun h => ?_)
    | refine ret_plain rfl fun _ _ => ?_
  all_goals (congr 1; rw [Bool.eq_iff_iff]; simp only [figB, Bool.or_eq_true, Bool.and_eq_true, decide_eq_true_eq, true_iff]; omega)
theorem wordb_x : PredB 89 wordB := by
  intro c W
  refine pureX hmix Try.func89 r89 (by kernel_rfl) [.int .u8 c.toNat] rfl ?_
  refine call_v rfl (fun W' _ => small_x c W') (fun W1 v W2 _ _ h => ?_); subst h
  refine br_bool (fun h1 => ?_) (fun h1 => ?_)
  · refine ret_plain rfl fun _ _ => ?_
    simp [wordB, h1]
  · refine call_v rfl (fun W' _ => figure_x c W') (fun W1 v W2 _ _ h => ?_); subst h
    refine ret_plain rfl fun _ _ => ?_
    simp [wordB, h1]
theorem idb_x : PredB 92 idB := by
  intro c W
  refine pureX hmix Try.func92 r92 (by kernel_rfl) [.int .u8 c.toNat] rfl ?_
  have fin : ∀ b1 b2 : Bool, smallB c = b1 → (b1 = false → figB c = b2) → True := fun _ _ _ _ => trivial
  refine call_v rfl (fun W' _ => small_x c W') (fun W1 v W2 _ _ h => ?_); subst h
  refine br_bool (fun h1 => ?_) (fun h1 => ?_)
  · refine ret_plain rfl fun _ _ => ?_
    simp [idB, h1]
  · refine call_v rfl (fun W' _ => figure_x c W') (fun W1 v W2 _ _ h => ?_); subst h
    refine br_bool (fun h2 => ?_) (fun h2 => ?_)
    · refine ret_plain rfl fun _ _ => ?_
      simp [idB, h1, h2]
    · refine ⟨rfl, ?_⟩
      repeat' first
        | refine ⟨rfl, ?_⟩
        | refine br_split (fun h => ?_) (fun h => ?_)
        | refine ret_plain rfl fun _ _ => ?_
      all_goals (congr 1; rw [Bool.eq_iff_iff]; simp only [idB, h1, h2, Bool.or_eq_true, Bool.and_eq_true, decide_eq_true_eq, Bool.false_eq_true, true_iff, false_or]; omega)

theorem all_xl {p : UInt8 → Bool} {fid : FuncId} (hp : PredB fid p) (s : List UInt8) (hs : s.length ≤ 9223372036854775807) (W : PW) :
    CallsX Try.prog 88 ⟨[strV s, .func (.func fid) #[] #[]]⟩ [] W fun v _ => v = .bool (allS p s) := by
  refine pureX hmix Try.func88 r88 (by kernel_rfl) [strV s, .func (.func fid) #[] #[]] rfl ?_
  refine ⟨Nat, fun i => [(8, .v (.int .i64 i))], fun _ => [], fun _ => [], fun i _ => i ≤ s.length ∧ s.all p = (s.drop i).all p, fun i => s.length - i, 0,
    all_sl ⟨rfl, trivial⟩, rfl, ole_refl _, ⟨Nat.zero_le _, rfl⟩, loopOK (fun _ => ⟨⟨trivial, rfl⟩, trivial⟩) (fun _ => rfl) (fun _ => rfl), ?_⟩
  intro i W1 l1 ⟨hi, hI⟩ f
  refine ⟨rfl, br_split (fun h => ?_) (fun h => ?_)⟩
  · have h : (i : Int) < s.length := h
    have hil : i < s.length := by omega
    have hb : byteAt s (i : Int).toNat = (s[i]).toNat := byteAt_get (List.getElem?_eq_getElem hil)
    rw [List.drop_eq_getElem_cons hil, List.all_cons] at hI
    refine ⟨⟨by omega, h⟩, ?_⟩
    refine call_v rfl (R := fun _ v _ => v = .bool (p s[i])) (fun W' _ => (congrArg (fun x => CallsX Try.prog fid ⟨[.int .u8 x]⟩ [] W' fun v _ => v = .bool (p s[i])) hb).mpr (hp _ W')) (fun W2 v W3 _ _ hv => ?_)
    subst hv
    generalize p s[i] = b at hI
    cases b
    · refine ret_plain rfl fun _ _ => ?_
      simp [allS, hI]
    · refine ⟨rfl, _, (i64_in ((i : Int) + 1) ⟨by omega, by omega⟩).symm, i + 1, all_sl ⟨rfl, trivial⟩, rfl, ole_refl _, ⟨by omega, by simpa using hI⟩, by dsimp only; omega⟩
  · have h : ¬ (i : Int) < s.length := h
    rw [List.drop_eq_nil_of_le (by omega)] at hI
    refine ⟨rfl, br_split (fun h1 => ?_) (fun h1 => ?_)⟩
    · have h1 : (1 : Int) ≤ s.length := h1
      refine ⟨rfl, ret_plain rfl fun _ _ => ?_⟩
      show Value.bool (decide ((s.length : Int) ≤ 32)) = _
      congr 1
      rw [allS, hI, Bool.eq_iff_iff]
      simp; omega
    · have h1 : ¬ (1 : Int) ≤ s.length := h1
      refine ret_plain rfl fun _ _ => ?_
      congr 1
      rw [allS, Bool.eq_iff_iff]
      simp; omega
theorem word_xl (s : List UInt8) (hs : s.length ≤ 9223372036854775807) (W : PW) : CallsX Try.prog 37 ⟨[strV s]⟩ [] W fun v _ => v = .bool (wordS s) := by
  refine pureX hmix Try.func37 r37 (by kernel_rfl) [strV s] rfl ?_
  have no : s ∈ kept → wordS s = false := fun h => by simp [wordS, h]
  refine br_split (fun h0 => ?_) (fun h1 => ?_)
  · have h : s = [117, 115, 101, 114] := h0
    refine br_yes h0 ?_
    refine ret_plain rfl fun _ _ => ?_
    rw [no (by rw [h]; simp [kept])]
  refine br_split (fun h0 => ?_) (fun h2 => ?_)
  · have h : s = [116, 104, 105, 115] := h0
    refine br_yes h0 ?_
    refine ret_plain rfl fun _ _ => ?_
    rw [no (by rw [h]; simp [kept])]
  refine br_split (fun h0 => ?_) (fun h3 => ?_)
  · have h : s = [110, 97, 109, 101, 115, 112, 97, 99, 101] := h0
    refine br_yes h0 ?_
    refine ret_plain rfl fun _ _ => ?_
    rw [no (by rw [h]; simp [kept])]
  refine br_split (fun h0 => ?_) (fun h4 => ?_)
  · have h : s = [114, 101, 108, 97, 116, 105, 111, 110] := h0
    refine br_yes h0 ?_
    refine ret_plain rfl fun _ _ => ?_
    rw [no (by rw [h]; simp [kept])]
  refine br_split (fun h0 => ?_) (fun h5 => ?_)
  · have h : s = [115, 99, 111, 112, 101] := h0
    refine ret_plain rfl fun _ _ => ?_
    rw [no (by rw [h]; simp [kept])]
  have hk : ¬ s ∈ kept := by
    intro h
    simp only [kept, List.mem_cons, List.not_mem_nil, or_false] at h
    rcases h with h | h | h | h | h
    · exact h1 h
    · exact h2 h
    · exact h3 h
    · exact h4 h
    · exact h5 h
  refine call_v rfl (fun W' _ => all_xl wordb_x s hs W') (fun W1 v W2 _ _ h => ?_); subst h
  refine br_bool (fun h6 => ?_) (fun h6 => ?_)
  · cases s with
    | nil => cases h6
    | cons c r =>
      refine ⟨⟨by omega, by show (0 : Int) < (((c :: r).length : Nat) : Int); simp⟩, ?_⟩
      refine call_v rfl (fun W' _ => small_x c W') (fun W1 v W2 _ _ h => ?_); subst h
      refine ret_plain rfl fun _ _ => ?_
      congr 1
      rw [wordS, h6]; simp [hk]
  · refine ret_plain rfl fun _ _ => ?_
    congr 1
    unfold wordS; rw [h6]; simp
theorem word_x (s : List UInt8) (hs : s.length ≤ 1000000) (W : PW) : CallsX Try.prog 37 ⟨[strV s]⟩ [] W fun v _ => v = .bool (wordS s) := word_xl s (by omega) W
theorem id_xl (s : List UInt8) (hs : s.length ≤ 9223372036854775807) (W : PW) : CallsX Try.prog 39 ⟨[strV s]⟩ [] W fun v _ => v = .bool (idS s) := by
  refine pureX hmix Try.func39 r39 (by kernel_rfl) [strV s] rfl ?_
  refine call_v rfl (fun W' _ => all_xl idb_x s hs W') (fun W1 v W2 _ _ h => ?_); subst h
  exact ret_plain rfl fun _ _ => rfl
theorem id_x (s : List UInt8) (hs : s.length ≤ 1000000) (W : PW) : CallsX Try.prog 39 ⟨[strV s]⟩ [] W fun v _ => v = .bool (idS s) := id_xl s (by omega) W
theorem name_x (b : Bool) (W : PW) : CallsX Try.prog 93 ⟨[.bool b]⟩ [] W fun v _ => v = .int .i64 (if b then 0 else 9) := by
  refine pureX hmix Try.func93 r93 (by kernel_rfl) [.bool b] rfl ?_
  cases b
  · exact ret_plain rfl fun _ _ => rfl
  · exact ret_plain rfl fun _ _ => rfl

def refC (r : RefS) : List Value := [strV r.space, strV r.id]
def subC (s : SubS) : List Value := [strV s.user, strV s.set.space, strV s.set.id, strV s.rel]
def tupC (t : TupS) : List Value := [strV t.object.space, strV t.object.id, strV t.rel, strV t.subject.user, strV t.subject.set.space, strV t.subject.set.id, strV t.subject.rel]
/-- (As long as any text may be.) -/
def RefS.fits (r : RefS) : Prop := r.space.length ≤ 9223372036854775807 ∧ r.id.length ≤ 9223372036854775807
/-- No text of it is too long. -/
def RefS.small (r : RefS) : Prop := r.space.length ≤ 1000000 ∧ r.id.length ≤ 1000000
def SubS.small (s : SubS) : Prop := s.user.length ≤ 1000000 ∧ s.set.small ∧ s.rel.length ≤ 1000000
def TupS.small (t : TupS) : Prop := t.object.small ∧ t.rel.length ≤ 1000000 ∧ t.subject.small
def okE (b : Bool) : Int := if b then 0 else 9
theorem okE_eq (b : Bool) : decide (okE b = 0) = b := by cases b <;> rfl
theorem checkRef_xl (r : RefS) (h : r.fits) (W : PW) : CallsX Try.prog 43 ⟨[.agg ⟨refC r⟩]⟩ [] W fun v _ => v = .int .i64 (okE (isRefS r)) := by
  refine pureX hmix Try.func43 r43 (by kernel_rfl) [.agg ⟨refC r⟩] rfl ?_
  refine call_v rfl (fun W' _ => word_xl r.space h.1 W') (fun W1 v W2 _ _ hv => ?_); subst hv
  refine br_bool (fun h1 => ?_) (fun h1 => ?_)
  · refine call_v rfl (fun W' _ => id_xl r.id h.2 W') (fun W1 v W2 _ _ hv => ?_); subst hv
    refine call_v rfl (fun W' _ => name_x _ W') (fun W1 v W2 _ _ hv => ?_); subst hv
    refine ret_plain rfl fun _ _ => ?_
    rw [isRefS, h1]; (first | done | rfl)
  · refine call_v rfl (fun W' _ => name_x _ W') (fun W1 v W2 _ _ hv => ?_); subst hv
    refine ret_plain rfl fun _ _ => ?_
    rw [isRefS, h1]; (first | done | rfl)
theorem checkRef_x (r : RefS) (h : r.small) (W : PW) : CallsX Try.prog 43 ⟨[.agg ⟨refC r⟩]⟩ [] W fun v _ => v = .int .i64 (okE (isRefS r)) := checkRef_xl r ⟨by have := h.1; omega, by have := h.2; omega⟩ W
theorem eqSub : EqOK Try.prog 48 [48, 42] := ⟨Try.eqGuardType48, fun s hs => by
  simp only [List.mem_cons, List.not_mem_nil, or_false] at hs
  rcases hs with rfl | rfl
  · exact Try.stoodInHeld48
  · exact Try.stoodInHeld42⟩
theorem checkSubject_x (s : SubS) (h : s.small) (W : PW) : CallsX Try.prog 45 ⟨[.agg ⟨subC s⟩]⟩ [] W fun v _ => v = .int .i64 (okE (isSubS s)) := by
  refine pureX hmix Try.func45 r45 (by kernel_rfl) [.agg ⟨subC s⟩] rfl ?_
  obtain ⟨hu, hset, hr⟩ := h
  obtain ⟨u, ⟨sp, id⟩, rel⟩ := s
  refine br_nsplit (fun h0 => ?_) (fun h0 => ?_)
  · have h0 : ¬ u = [] := h0
    refine call_v rfl (fun W' _ => id_x u hu W') (fun W1 v W2 _ _ hv => ?_); subst hv
    refine br_bool (fun h1 => ?_) (fun h1 => ?_)
    · refine ⟨eqSub, ?_⟩
      refine call_v rfl (fun W' _ => name_x _ W') (fun W1 v W2 _ _ hv => ?_); subst hv
      refine ret_plain rfl fun _ _ => ?_
      congr 1
      simp only [isSubS, h0, if_false, h1, Bool.true_and, okE]
      congr 1
      rw [eq_iff_iff]
      simp [noRef, and_assoc]
    · refine call_v rfl (fun W' _ => name_x _ W') (fun W1 v W2 _ _ hv => ?_); subst hv
      refine ret_plain rfl fun _ _ => ?_
      simp only [isSubS, h0, if_false, h1, Bool.false_and]; (first | done | rfl)
  · have h0 : u = [] := h0
    refine call_v rfl (fun W' _ => checkRef_x ⟨sp, id⟩ hset W') (fun W1 v W2 _ _ hv => ?_); subst hv
    refine ⟨rfl, br_split (fun h1 => ?_) (fun h1 => ?_)⟩
    · have h1 : isRefS ⟨sp, id⟩ = true := by have := okE_eq (isRefS ⟨sp, id⟩); rw [← this]; exact decide_eq_true h1
      refine call_v rfl (fun W' _ => word_x rel hr W') (fun W1 v W2 _ _ hv => ?_); subst hv
      refine call_v rfl (fun W' _ => name_x _ W') (fun W1 v W2 _ _ hv => ?_); subst hv
      refine ret_plain rfl fun _ _ => ?_
      simp only [isSubS, h0, if_true, h1, Bool.true_and]; (first | done | rfl)
    · have h1 : isRefS ⟨sp, id⟩ = false := by have := okE_eq (isRefS ⟨sp, id⟩); rw [← this]; exact decide_eq_false h1
      refine call_v rfl (fun W' _ => name_x _ W') (fun W1 v W2 _ _ hv => ?_); subst hv
      refine ret_plain rfl fun _ _ => ?_
      simp only [isSubS, h0, if_true, h1, Bool.false_and]; (first | done | rfl)
theorem okE_true {b : Bool} (h : okE b = 0) : b = true := by cases b <;> first | rfl | cases h
theorem okE_false {b : Bool} (h : ¬ okE b = 0) : b = false := by cases b <;> first | rfl | exact absurd rfl h
theorem check_x (t : TupS) (h : t.small) (W : PW) : CallsX Try.prog 41 ⟨[.agg ⟨tupC t⟩]⟩ [] W fun v _ => v = .int .i64 (okE (isTupS t)) := by
  refine pureX hmix Try.func41 r41 (by kernel_rfl) [.agg ⟨tupC t⟩] rfl ?_
  obtain ⟨ho, hr, hs⟩ := h
  refine call_v rfl (fun W' _ => checkRef_x t.object ho W') (fun W1 v W2 _ _ hv => ?_); subst hv
  refine ⟨rfl, br_split (fun h1 => ?_) (fun h1 => ?_)⟩
  · have h1 := okE_true h1
    refine call_v rfl (fun W' _ => word_x t.rel hr W') (fun W1 v W2 _ _ hv => ?_); subst hv
    refine br_bool (fun h2 => ?_) (fun h2 => ?_)
    · refine call_v rfl (fun W' _ => checkSubject_x t.subject hs W') (fun W1 v W2 _ _ hv => ?_); subst hv
      refine ⟨rfl, ?_⟩
      refine call_v rfl (fun W' _ => name_x _ W') (fun W1 v W2 _ _ hv => ?_); subst hv
      refine ret_plain rfl fun _ _ => ?_
      rw [okE_eq, isTupS, h1, h2]; (first | done | rfl)
    · refine call_v rfl (fun W' _ => name_x _ W') (fun W1 v W2 _ _ hv => ?_); subst hv
      refine ret_plain rfl fun _ _ => ?_
      rw [isTupS, h1, h2]; (first | done | rfl)
  · have h1 := okE_false h1
    refine call_v rfl (fun W' _ => name_x _ W') (fun W1 v W2 _ _ hv => ?_); subst hv
    refine ret_plain rfl fun _ _ => ?_
    rw [isTupS, h1]; (first | done | rfl)

/-! ### Texts -/
theorem cutL_idx (c : UInt8) : ∀ s : List UInt8, match cutL c s with | some (a, _) => Lib.indexByte s c = a.length | none => Lib.indexByte s c = -1
  | [] => rfl
  | x :: r => by
    have ih := cutL_idx c r
    simp only [cutL, Lib.indexByte]
    by_cases h : x = c
    · simp [h]
    · have hb : (x == c) = false := by simp [h]
      rw [if_neg h, hb]
      cases hc : cutL c r with
      | none =>
        rw [hc] at ih
        simp only at ih
        simp [ih]
      | some p =>
        obtain ⟨a, b⟩ := p
        rw [hc] at ih
        simp only at ih
        have : ¬ Lib.indexByte r c = -1 := by omega
        have h2 : (Lib.indexByte r c == -1) = false := by simp [this]
        simp only [Bool.false_eq_true, if_false, ih, List.length_cons]
        push_cast; (first | done | rfl)
theorem index1_x (s : List UInt8) (c : UInt8) (W : PW) : CallsX Try.prog 162 ⟨[strV s, strV [c]]⟩ [] W fun v _ => v = .int .i64 (Lib.indexByte s c) :=
  CallsX.of_same ⟨_, Try.func162, by kernel_rfl, by kernel_rfl⟩ (Try.stringslite_Index_one ⟨⟨s⟩⟩ c W.w)
def cutV (c : UInt8) (s : List UInt8) : Value := match cutL c s with
  | some (a, b) => .tuple ⟨[strV a, strV b, .bool true]⟩
  | none => .tuple ⟨[strV s, strV [], .bool false]⟩
theorem cut0_x (s : List UInt8) (c : UInt8) (hs : s.length ≤ 1000000) (W : PW) : CallsX Try.prog 135 ⟨[strV s, strV [c]]⟩ [] W fun v _ => v = cutV c s := by
  refine pureX hmix Try.func135 r135 (by kernel_rfl) [strV s, strV [c]] rfl ?_
  refine call_v rfl (fun W' _ => index1_x s c W') (fun W1 v W2 _ _ hv => ?_); subst hv
  have hi := cutL_idx c s
  unfold cutV
  cases hc : cutL c s with
  | none =>
    rw [hc] at hi
    refine ⟨rfl, br_no (by show ¬ (0 : Int) ≤ _; rw [hi]; decide) ?_⟩
    exact ret_plain rfl fun _ _ => rfl
  | some p =>
    obtain ⟨a, b⟩ := p
    rw [hc] at hi
    have hsp := cutL_some hc
    have hl : s.length = a.length + 1 + b.length := by rw [hsp]; simp; omega
    have hi : Lib.indexByte s c = a.length := hi
    refine ⟨rfl, br_yes (by show (0 : Int) ≤ _; omega) ?_⟩
    refine ⟨⟨by omega, by omega, by show Lib.indexByte s c ≤ (s.length : Int); omega⟩, rfl, _, (i64_in (Lib.indexByte s c + (1 : Nat)) ⟨by omega, by omega⟩).symm, ⟨by omega, by show Lib.indexByte s c + (1 : Nat) ≤ (s.length : Int); omega, Int.le_refl _⟩, ?_⟩
    refine ret_plain rfl fun _ _ => ?_
    have e1 : (s.drop (0 : Int).toNat).take ((Lib.indexByte s c).toNat - (0 : Int).toNat) = a := by
      rw [hi, hsp]; simp
    have e2 : (s.drop (Lib.indexByte s c + (1 : Nat)).toNat).take ((s.length : Int).toNat - (Lib.indexByte s c + (1 : Nat)).toNat) = b := by
      have hd : s.drop (Lib.indexByte s c + (1 : Nat)).toNat = b := by
        rw [hi, show ((a.length : Int) + (1 : Nat)).toNat = a.length + 1 by omega, hsp, ← List.drop_drop, List.drop_left]; (first | done | rfl)
      rw [hd, List.take_of_length_le]
      rw [← hd]; simp
    show Value.tuple ⟨[strV ((s.drop (0 : Int).toNat).take ((Lib.indexByte s c).toNat - (0 : Int).toNat)), strV ((s.drop (Lib.indexByte s c + (1 : Nat)).toNat).take ((s.length : Int).toNat - (Lib.indexByte s c + (1 : Nat)).toNat)), .bool true]⟩ = _
    rw [e1, e2]
theorem cut_x (s : List UInt8) (c : UInt8) (hs : s.length ≤ 1000000) (W : PW) : CallsX Try.prog 85 ⟨[strV s, strV [c]]⟩ [] W fun v _ => v = cutV c s := by
  refine pureX hmix Try.func85 r85 (by kernel_rfl) [strV s, strV [c]] rfl ?_
  refine call_v rfl (fun W' _ => cut0_x s c hs W') (fun W1 v W2 _ _ hv => ?_)
  obtain ⟨a, b, d, rfl⟩ : ∃ a b d, v = .tuple ⟨[strV a, strV b, .bool d]⟩ := by
    rw [hv]; unfold cutV; split <;> exact ⟨_, _, _, rfl⟩
  refine ⟨_, rfl, _, rfl, _, rfl, ?_⟩
  exact ret_plain rfl fun _ _ => hv
end Go.Proofs.Ytcgbcbdgjhnlaaa

namespace Go.Proofs.Ytcgbcbdgjhnlaaa
open Go.RowKit

theorem br_t {b : Bool} {X Y : Prop} (h : b = true) (x : X) : Branch X Y b := by subst h; exact x
theorem br_f {b : Bool} {X Y : Prop} (h : b = false) (y : Y) : Branch X Y b := by subst h; exact y

theorem cutL_len {c : UInt8} {s a b : List UInt8} (h : cutL c s = some (a, b)) : a.length ≤ s.length ∧ b.length ≤ s.length := by
  have := congrArg List.length (cutL_some h); simp at this; omega
def refM (s : List UInt8) : RefS := match refP s with | some r => r | none => noRef
theorem ref_x (s : List UInt8) (hs : s.length ≤ 1000000) (W : PW) : CallsX Try.prog 29 ⟨[strV s]⟩ [] W fun v _ => v = .tuple ⟨[.agg ⟨refC (refM s)⟩, .int .i64 (if (refP s).isSome then 0 else 4)]⟩ := by
  refine pureX hmix Try.func29 r29 (by kernel_rfl) [strV s] rfl ?_
  refine call_v rfl (fun W' _ => cut_x s 58 hs W') (fun W1 v W2 _ _ hv => ?_)
  cases hc : cutL 58 s with
  | none =>
    have hv : v = .tuple ⟨[strV s, strV [], .bool false]⟩ := by rw [hv, cutV, hc]
    subst hv
    have e : refP s = none := by rw [refP, hc]
    refine ⟨_, rfl, _, rfl, _, rfl, ?_⟩
    refine ret_plain rfl fun _ _ => ?_
    simp only [refM, e]; (first | done | rfl)
  | some p =>
    obtain ⟨a, b⟩ := p
    obtain ⟨l1, l2⟩ := cutL_len hc
    have hv : v = .tuple ⟨[strV a, strV b, .bool true]⟩ := by rw [hv, cutV, hc]
    subst hv
    refine ⟨_, rfl, _, rfl, _, rfl, ?_⟩
    refine call_v rfl (fun W' _ => checkRef_x ⟨a, b⟩ ⟨by show a.length ≤ _; omega, by show b.length ≤ _; omega⟩ W') (fun W1 v W2 _ _ hv => ?_); subst hv
    refine ⟨rfl, br_nsplit (fun h => ?_) (fun h => ?_)⟩
    · have h := okE_false h
      have e : refP s = none := by rw [refP, hc]; dsimp only; rw [h]; (first | done | rfl)
      refine ret_plain rfl fun _ _ => ?_
      simp only [refM, e]; (first | done | rfl)
    · have h := okE_true h
      have e : refP s = some ⟨a, b⟩ := by rw [refP, hc]; dsimp only; rw [h]; (first | done | rfl)
      refine ret_plain rfl fun _ _ => ?_
      simp only [refM, e]; (first | done | rfl)
theorem ok4_true {b : Bool} (h : (if b then (0 : Int) else 4) = 0) : b = true := by cases b <;> first | rfl | cases h
theorem ok4_false {b : Bool} (h : ¬ (if b then (0 : Int) else 4) = 0) : b = false := by cases b <;> first | rfl | exact absurd rfl h
def setM (s : List UInt8) : RefS × List UInt8 × Bool := match cutL 35 s with
  | some (a, b) => (refM a, b, (refP a).isSome && wordS b)
  | none => (refM s, [], false)
theorem setM_P (s : List UInt8) : (setM s).2.2 = (setP s).isSome ∧ ∀ r b, setP s = some (r, b) → setM s = (r, b, true) := by
  unfold setM setP
  cases hc : cutL 35 s with
  | none => exact ⟨rfl, fun r b h => by cases h⟩
  | some p =>
    obtain ⟨a, b⟩ := p
    dsimp only
    unfold refM
    cases hr : refP a with
    | none => exact ⟨rfl, fun r b h => by cases h⟩
    | some r =>
      cases hw : wordS b
      · exact ⟨rfl, fun r b h => by cases h⟩
      · refine ⟨rfl, fun r' b' h => ?_⟩
        simp only [if_true, Option.some.injEq, Prod.mk.injEq] at h
        obtain ⟨rfl, rfl⟩ := h; (first | done | rfl)
theorem set_x (s : List UInt8) (hs : s.length ≤ 1000000) (W : PW) : CallsX Try.prog 87 ⟨[strV s]⟩ [] W fun v _ => v = .tuple ⟨[.agg ⟨refC (setM s).1⟩, strV (setM s).2.1, .bool (setM s).2.2]⟩ := by
  refine pureX hmix Try.func87 r87 (by kernel_rfl) [strV s] rfl ?_
  refine call_v rfl (fun W' _ => cut_x s 35 hs W') (fun W1 v W2 _ _ hv => ?_)
  cases hc : cutL 35 s with
  | none =>
    have hv : v = .tuple ⟨[strV s, strV [], .bool false]⟩ := by rw [hv, cutV, hc]
    subst hv
    refine ⟨_, rfl, _, rfl, _, rfl, ?_⟩
    refine call_v rfl (fun W' _ => ref_x s hs W') (fun W1 v W2 _ _ hv => ?_); subst hv
    refine ⟨_, rfl, _, rfl, ?_⟩
    refine ret_plain rfl fun _ _ => ?_
    simp only [setM, hc]; (first | done | rfl)
  | some p =>
    obtain ⟨a, b⟩ := p
    obtain ⟨l1, l2⟩ := cutL_len hc
    have hv : v = .tuple ⟨[strV a, strV b, .bool true]⟩ := by rw [hv, cutV, hc]
    subst hv
    refine ⟨_, rfl, _, rfl, _, rfl, ?_⟩
    refine call_v rfl (fun W' _ => ref_x a (by omega) W') (fun W1 v W2 _ _ hv => ?_); subst hv
    refine ⟨_, rfl, _, rfl, rfl, br_split (fun h => ?_) (fun h => ?_)⟩
    · have h := ok4_true h
      refine call_v rfl (fun W' _ => word_x b (by omega) W') (fun W1 v W2 _ _ hv => ?_); subst hv
      refine ret_plain rfl fun _ _ => ?_
      simp only [setM, hc, h]; (first | done | rfl)
    · have h := ok4_false h
      refine ret_plain rfl fun _ _ => ?_
      simp only [setM, hc, h]; (first | done | rfl)
def subM (s : List UInt8) : SubS := match subP s with | some u => u | none => noSub
theorem subject_x (s : List UInt8) (hs : s.length ≤ 1000000) (W : PW) : CallsX Try.prog 31 ⟨[strV s]⟩ [] W fun v _ => v = .tuple ⟨[.agg ⟨subC (subM s)⟩, .int .i64 (if (subP s).isSome then 0 else 4)]⟩ := by
  refine pureX hmix Try.func31 r31 (by kernel_rfl) [strV s] rfl ?_
  refine call_v rfl (fun W' _ => id_x s hs W') (fun W1 v W2 _ _ hv => ?_); subst hv
  refine br_bool (fun h => ?_) (fun h => ?_)
  · refine ret_plain rfl fun _ _ => ?_
    simp only [subM, subP, h, if_true]; (first | done | rfl)
  · refine call_v rfl (fun W' _ => set_x s hs W') (fun W1 v W2 _ _ hv => ?_); subst hv
    obtain ⟨h1, h2⟩ := setM_P s
    refine ⟨_, rfl, _, rfl, _, rfl, ?_⟩
    cases hp : setP s with
    | none =>
      rw [hp] at h1
      refine br_t (by show (!(setM s).2.2) = true; rw [h1]; (first | done | rfl)) ?_
      refine ret_plain rfl fun _ _ => ?_
      simp only [subM, subP, h, Bool.false_eq_true, if_false, hp]; (first | done | rfl)
    | some p =>
      obtain ⟨r, b⟩ := p
      have h3 := h2 r b hp
      refine br_f (by show (!(setM s).2.2) = false; rw [h3]; (first | done | rfl)) ?_
      refine ret_plain rfl fun _ _ => ?_
      simp only [subM, subP, h, Bool.false_eq_true, if_false, hp, h3]; (first | done | rfl)
def tupM (s : List UInt8) : TupS := match tupP s with | some u => u | none => noTup
set_option maxHeartbeats 2000000 in
theorem parse_x (s : List UInt8) (hs : s.length ≤ 1000000) (W : PW) : CallsX Try.prog 33 ⟨[strV s]⟩ [] W fun v _ => v = .tuple ⟨[.agg ⟨tupC (tupM s)⟩, .int .i64 (if (tupP s).isSome then 0 else 4)]⟩ := by
  refine pureX hmix Try.func33 r33 (by kernel_rfl) [strV s] rfl ?_
  refine call_v rfl (fun W' _ => cut_x s 64 hs W') (fun W1 v W2 _ _ hv => ?_)
  obtain ⟨a, b, d, hl, rfl, hP⟩ : ∃ a b d, (a.length ≤ 1000000 ∧ b.length ≤ 1000000) ∧ v = .tuple ⟨[strV a, strV b, .bool d]⟩ ∧ tupP s = match setP a, subP b with | some (r, rel), some u => some ⟨r, rel, u⟩ | _, _ => none := by
    rw [hv]; unfold cutV tupP
    cases hc : cutL 64 s with
    | none =>
      refine ⟨s, [], false, ⟨hs, by decide⟩, rfl, ?_⟩
      have : subP [] = none := by rfl
      rw [this]; cases setP s <;> rfl
    | some p =>
      obtain ⟨a, b⟩ := p
      obtain ⟨l1, l2⟩ := cutL_len hc
      exact ⟨a, b, true, ⟨by omega, by omega⟩, rfl, rfl⟩
  refine ⟨_, rfl, _, rfl, _, rfl, ?_⟩
  refine call_v rfl (fun W' _ => set_x a hl.1 W') (fun W1 v W2 _ _ hv => ?_); subst hv
  refine ⟨_, rfl, _, rfl, _, rfl, ?_⟩
  refine call_v rfl (fun W' _ => subject_x b hl.2 W') (fun W1 v W2 _ _ hv => ?_); subst hv
  refine ⟨_, rfl, _, rfl, ?_⟩
  obtain ⟨h1, h2⟩ := setM_P a
  cases hp : setP a with
  | none =>
    rw [hp] at h1 hP
    refine br_t (by show (!(setM a).2.2) = true; rw [h1]; (first | done | rfl)) ?_
    refine ret_plain rfl fun _ _ => ?_
    have : tupP s = none := hP
    simp only [tupM, this]; (first | done | rfl)
  | some p =>
    obtain ⟨r, rel⟩ := p
    have h3 := h2 r rel hp
    rw [hp] at hP
    refine br_f (by show (!(setM a).2.2) = false; rw [h3]; (first | done | rfl)) ⟨rfl, br_nsplit (fun h => ?_) (fun h => ?_)⟩
    · have h := ok4_false h
      refine ret_plain rfl fun _ _ => ?_
      have : tupP s = none := by rw [hP]; cases hq : subP b with | none => rfl | some u => rw [hq] at h; cases h
      simp only [tupM, this]; (first | done | rfl)
    · have h := ok4_true h
      refine ret_plain rfl fun _ _ => ?_
      cases hq : subP b with
      | none => rw [hq] at h; cases h
      | some u =>
        rw [hq] at hP
        have : tupP s = some ⟨r, rel, u⟩ := hP
        simp only [tupM, this, subM, hq, h3]; (first | done | rfl)
end Go.Proofs.Ytcgbcbdgjhnlaaa

namespace Go.Proofs.Ytcgbcbdgjhnlaaa
open Go.RowKit

theorem refid_x (s : List UInt8) (hs : s.length ≤ 1000000) (W : PW) : CallsX Try.prog 40 ⟨[strV s]⟩ [] W fun v _ => v = .bool (idS s) := by
  refine pureX hmix Try.func40 r40 (by kernel_rfl) [strV s] rfl ?_
  refine ⟨Nat, fun i => [(3, .v (.int .i64 i))], fun _ => [], fun _ => [], fun i _ => i ≤ s.length ∧ s.all idB = (s.drop i).all idB, fun i => s.length - i, 0,
    all_sl ⟨rfl, trivial⟩, rfl, ole_refl _, ⟨Nat.zero_le _, rfl⟩, loopOK (fun _ => ⟨⟨trivial, rfl⟩, trivial⟩) (fun _ => rfl) (fun _ => rfl), ?_⟩
  intro i W1 l1 ⟨hi, hI⟩ f
  refine ⟨rfl, br_split (fun h => ?_) (fun h => ?_)⟩
  · have h : (i : Int) < s.length := h
    have hil : i < s.length := by omega
    have hb : byteAt s (i : Int).toNat = (s[i]).toNat := byteAt_get (List.getElem?_eq_getElem hil)
    rw [List.drop_eq_getElem_cons hil, List.all_cons] at hI
    refine ⟨⟨by omega, h⟩, ?_⟩
    have no : idB s[i] = false → allS idB s = false := fun h => by simp [allS, hI, h]
    have go : idB s[i] = true → s.all idB = (s.drop (i + 1)).all idB := fun h => by rw [hI, h]; simp
    have inc := (i64_in ((i : Int) + 1) ⟨by omega, by omega⟩).symm
    have key : ∀ n : Nat, n = (s[i]).toNat → idB s[i] = (smallB (UInt8.ofNat n) || figB (UInt8.ofNat n) || (decide (65 ≤ n) && decide (n ≤ 90)) || decide (n = 46) || decide (n = 45)) := fun n hn => by subst hn; rw [UInt8.ofNat_toNat]; (first | done | rfl)
    clear key
    generalize hc : s[i] = c at hb no go
    refine ⟨rfl, ?_⟩
    repeat' first
      | refine ⟨rfl, _, inc, i + 1, all_sl ⟨rfl, trivial⟩, rfl, ole_refl _, ⟨by omega, go ?_⟩, by dsimp only; omega⟩
      | refine ⟨rfl, ?_⟩
      | refine br_split (fun h => ?_) (fun h => ?_)
      | refine br_nsplit (fun h => ?_) (fun h => ?_)
      | refine ret_plain rfl fun _ _ => ?_
    all_goals simp only [hb] at *
    all_goals first
      | (rw [idS, no]; simp only [idB, smallB, figB, Bool.or_eq_false_iff, Bool.and_eq_false_iff, decide_eq_false_iff_not]; omega)
      | (simp only [idB, smallB, figB, Bool.or_eq_true, Bool.and_eq_true, decide_eq_true_eq]; omega)
  · have h : ¬ (i : Int) < s.length := h
    rw [List.drop_eq_nil_of_le (by omega)] at hI
    refine ⟨rfl, br_split (fun h1 => ?_) (fun h1 => ?_)⟩
    · have h1 : (1 : Int) ≤ s.length := h1
      refine ⟨rfl, ret_plain rfl fun _ _ => ?_⟩
      show Value.bool (decide ((s.length : Int) ≤ 32)) = _
      congr 1
      rw [idS, allS, hI, Bool.eq_iff_iff]
      simp; omega
    · have h1 : ¬ (1 : Int) ≤ s.length := h1
      refine ret_plain rfl fun _ _ => ?_
      congr 1
      rw [idS, allS, Bool.eq_iff_iff]
      simp; omega
theorem wordS_head {s : List UInt8} {c : UInt8} (h : s[0]? = some c) : wordS s = (!decide (s ∈ kept) && (allS wordB s && smallB c)) := by
  cases s with
  | nil => cases h
  | cons d r =>
    simp only [List.getElem?_cons_zero, Option.some.injEq] at h
    subst h; (first | done | rfl)
theorem smallB_iff (c : UInt8) : smallB c = true ↔ 97 ≤ c.toNat ∧ c.toNat ≤ 122 := by simp [smallB]
set_option maxRecDepth 10000 in
theorem refword_xl (s : List UInt8) (hs : s.length ≤ 9223372036854775807) (W : PW) : CallsX Try.prog 38 ⟨[strV s]⟩ [] W fun v _ => v = .bool (wordS s) := by
  refine pureX hmix Try.func38 r38 (by kernel_rfl) [strV s] rfl ?_
  have lenF : allS wordB s = false → wordS s = false := fun h => by unfold wordS; rw [h]; simp
  refine ⟨rfl, br_split (fun h => ?_) (fun h1 => ?_)⟩
  · have h : (s.length : Int) < 1 := h
    refine ret_plain rfl fun _ _ => ?_
    rw [lenF]
    simp [allS]; omega
  have h1 : ¬ (s.length : Int) < 1 := h1
  refine ⟨rfl, br_split (fun h => ?_) (fun h2 => ?_)⟩
  · have h : (32 : Int) < s.length := h
    refine ret_plain rfl fun _ _ => ?_
    rw [lenF]
    simp [allS]; omega
  have h2 : ¬ (32 : Int) < s.length := h2
  have h00 : (0 : Int) < s.length := by omega
  obtain ⟨c, hc⟩ : ∃ c, s[0]? = some c := ⟨s[0]'(by omega), List.getElem?_eq_getElem (by omega)⟩
  have hb : byteAt s (0 : Int).toNat = c.toNat := byteAt_get hc
  have hws := wordS_head hc
  refine ⟨⟨by omega, h00⟩, ?_⟩
  refine ⟨rfl, ?_⟩
  refine br_split (fun h => ?_) (fun h3 => ?_)
  · have h : byteAt s (0 : Int).toNat < 97 := h
    rw [hb] at h
    refine ret_plain rfl fun _ _ => ?_
    have : smallB c = false := by rw [← Bool.not_eq_true, smallB_iff]; omega
    rw [hws, this]; simp
  have h3 : ¬ byteAt s (0 : Int).toNat < 97 := h3
  rw [hb] at h3
  refine ⟨⟨by omega, h00⟩, ?_⟩
  refine ⟨rfl, ?_⟩
  refine br_split (fun h => ?_) (fun h4 => ?_)
  · have h : (122 : Int) < byteAt s (0 : Int).toNat := h
    rw [hb] at h
    refine ret_plain rfl fun _ _ => ?_
    have : smallB c = false := by rw [← Bool.not_eq_true, smallB_iff]; omega
    rw [hws, this]; simp
  have h4 : ¬ (122 : Int) < byteAt s (0 : Int).toNat := h4
  rw [hb] at h4
  have hsm : smallB c = true := by rw [smallB_iff]; omega
  refine ⟨Nat, fun i => [(3, .v (.int .i64 i))], fun _ => [], fun _ => [], fun i _ => i ≤ s.length ∧ s.all wordB = (s.drop i).all wordB, fun i => s.length - i, 0,
    all_sl ⟨rfl, trivial⟩, rfl, ole_refl _, ⟨Nat.zero_le _, rfl⟩, loopOK (fun _ => ⟨⟨trivial, rfl⟩, trivial⟩) (fun _ => rfl) (fun _ => rfl), ?_⟩
  intro i W1 l1 ⟨hi, hI⟩ f
  refine ⟨rfl, br_split (fun h => ?_) (fun h => ?_)⟩
  · have h : (i : Int) < s.length := h
    have hil : i < s.length := by omega
    have hb : byteAt s (i : Int).toNat = (s[i]).toNat := byteAt_get (List.getElem?_eq_getElem hil)
    rw [List.drop_eq_getElem_cons hil, List.all_cons] at hI
    refine ⟨⟨by omega, h⟩, ?_⟩
    have no : wordB s[i] = false → wordS s = false := fun h => lenF (by rw [allS, hI, h]; (first | done | rfl))
    have go : wordB s[i] = true → s.all wordB = (s.drop (i + 1)).all wordB := fun h => by rw [hI, h]; simp
    have inc := (i64_in ((i : Int) + 1) ⟨by omega, by omega⟩).symm
    generalize s[i] = d at hb no go
    refine ⟨rfl, ?_⟩
    repeat' first
      | refine ⟨rfl, _, inc, i + 1, all_sl ⟨rfl, trivial⟩, rfl, ole_refl _, ⟨by omega, go ?_⟩, by dsimp only; omega⟩
      | refine ⟨rfl, ?_⟩
      | refine br_split (fun h => ?_) (fun h => ?_)
      | refine br_nsplit (fun h => ?_) (fun h => ?_)
      | refine ret_plain rfl fun _ _ => ?_
    all_goals simp only [hb] at *
    all_goals first
      | (rw [no]; simp only [wordB, smallB, figB, Bool.or_eq_false_iff, Bool.and_eq_false_iff, decide_eq_false_iff_not]; omega)
      | (simp only [wordB, smallB, figB, Bool.or_eq_true, Bool.and_eq_true, decide_eq_true_eq]; omega)
  · have h : ¬ (i : Int) < s.length := h
    rw [List.drop_eq_nil_of_le (by omega)] at hI
    have hall : allS wordB s = true := by
      rw [allS, hI]; simp; omega
    have hw : wordS s = !decide (s ∈ kept) := by rw [hws, hall, hsm]; simp
    repeat' first
      | refine br_nsplit (fun h => ?_) (fun h => ?_)
      | refine ret_plain rfl fun _ _ => ?_
    all_goals (rw [hw]; congr 1; rw [Bool.eq_iff_iff]; simp only [kept, List.mem_cons, List.not_mem_nil, or_false, Bool.not_eq_true', decide_eq_false_iff_not, not_or]; dsimp only at *; simp_all)
theorem refword_x (s : List UInt8) (hs : s.length ≤ 1000000) (W : PW) : CallsX Try.prog 38 ⟨[strV s]⟩ [] W fun v _ => v = .bool (wordS s) := refword_xl s (by omega) W
end Go.Proofs.Ytcgbcbdgjhnlaaa

namespace Go.Proofs.Ytcgbcbdgjhnlaaa
open Go.RowKit

def cutN (c : UInt8) (s : List UInt8) : List UInt8 × List UInt8 := match cutL c s with | some p => p | none => (s, [])
theorem split_x (s : List UInt8) (c : UInt8) (hs : s.length ≤ 1000000) (W : PW) : CallsX Try.prog 86 ⟨[strV s, .int .u8 c.toNat]⟩ [] W fun v _ => ∃ b, v = .tuple ⟨[strV (cutN c s).1, strV (cutN c s).2, .bool b]⟩ := by
  refine pureX hmix Try.func86 r86 (by kernel_rfl) [strV s, .int .u8 c.toNat] rfl ?_
  refine ⟨Nat, fun i => [(7, .v (.int .i64 i))], fun _ => [], fun _ => [], fun i _ => i ≤ s.length ∧ c ∉ s.take i, fun i => s.length - i, 0,
    all_sl ⟨rfl, trivial⟩, rfl, ole_refl _, ⟨Nat.zero_le _, by simp⟩, loopOK (fun _ => ⟨⟨trivial, rfl⟩, trivial⟩) (fun _ => rfl) (fun _ => rfl), ?_⟩
  intro i W1 l1 ⟨hi, hI⟩ f
  refine ⟨rfl, br_split (fun h => ?_) (fun h => ?_)⟩
  · have h : (i : Int) < s.length := h
    have hil : i < s.length := by omega
    have hb : byteAt s (i : Int).toNat = (s[i]).toNat := byteAt_get (List.getElem?_eq_getElem hil)
    refine ⟨⟨by omega, h⟩, rfl, br_split (fun he => ?_) (fun he => ?_)⟩
    · have he : byteAt s (i : Int).toNat = c.toNat := he
      rw [hb] at he
      have he : s[i] = c := UInt8.toNat_inj.1 (by omega)
      have hsp : s = s.take i ++ c :: s.drop (i + 1) := by
        rw [← he, ← List.drop_eq_getElem_cons hil, List.take_append_drop]
      have hc : cutN c s = (s.take i, s.drop (i + 1)) := by
        unfold cutN
        have := cutL_app (c := c) (s.drop (i + 1)) hI
        rw [← hsp] at this
        rw [this]
      refine ⟨⟨by omega, by omega, h2' hi⟩, rfl, _, (i64_in ((i : Int) + 1) ⟨by omega, by omega⟩).symm, ⟨by omega, by show (i : Int) + 1 ≤ (s.length : Int); omega, Int.le_refl _⟩, ?_⟩
      refine ret_plain rfl fun _ _ => ⟨true, ?_⟩
      rw [hc]
      have e2 : (s.drop ((i : Int) + 1).toNat).take ((s.length : Int).toNat - ((i : Int) + 1).toNat) = s.drop (i + 1) := by
        rw [show ((i : Int) + 1).toNat = i + 1 by omega, List.take_of_length_le]; simp
      show Value.tuple ⟨[strV ((s.drop (0 : Int).toNat).take (i - (0 : Int).toNat)), strV ((s.drop ((i : Int) + 1).toNat).take ((s.length : Int).toNat - ((i : Int) + 1).toNat)), .bool true]⟩ = _
      rw [e2]; (first | done | rfl)
    · have he : ¬ byteAt s (i : Int).toNat = c.toNat := he
      rw [hb] at he
      refine ⟨rfl, _, (i64_in ((i : Int) + 1) ⟨by omega, by omega⟩).symm, i + 1, all_sl ⟨rfl, trivial⟩, rfl, ole_refl _, ⟨hil, ?_⟩, by dsimp only; omega⟩
      rw [List.take_add_one, List.getElem?_eq_getElem hil]
      simp only [Option.toList_some, List.mem_append, List.mem_singleton, not_or]
      exact ⟨hI, fun e => he (by rw [e])⟩
  · have h : ¬ (i : Int) < s.length := h
    rw [List.take_of_length_le (by omega)] at hI
    refine ret_plain rfl fun _ _ => ⟨false, ?_⟩
    have hc : cutL c s = none := by
      cases hc : cutL c s with
      | none => rfl
      | some p => exact absurd (by rw [cutL_some (a := p.1) (b := p.2) hc]; simp) hI
    rw [cutN, hc]; (first | done | rfl)
theorem isRef_x (r : RefS) (h : r.small) (W : PW) : CallsX Try.prog 44 ⟨[.agg ⟨refC r⟩]⟩ [] W fun v _ => v = .bool (isRefS r) := by
  refine pureX hmix Try.func44 r44 (by kernel_rfl) [.agg ⟨refC r⟩] rfl ?_
  refine call_v rfl (fun W' _ => refword_x r.space h.1 W') (fun W1 v W2 _ _ hv => ?_); subst hv
  refine br_bool (fun h1 => ?_) (fun h1 => ?_)
  · refine call_v rfl (fun W' _ => refid_x r.id h.2 W') (fun W1 v W2 _ _ hv => ?_); subst hv
    refine ret_plain rfl fun _ _ => ?_
    rw [isRefS, h1]; (first | done | rfl)
  · refine ret_plain rfl fun _ _ => ?_
    rw [isRefS, h1]; (first | done | rfl)
theorem cutN_len (c : UInt8) {s : List UInt8} {n : Nat} (h : s.length ≤ n) : (cutN c s).1.length ≤ n ∧ (cutN c s).2.length ≤ n := by
  unfold cutN
  cases hc : cutL c s with
  | none => exact ⟨h, Nat.zero_le _⟩
  | some p => obtain ⟨a, b⟩ := p; have := cutL_len hc; exact ⟨by show a.length ≤ n; omega, by show b.length ≤ n; omega⟩
def refR (s : List UInt8) : RefS := ⟨(cutN 58 s).1, (cutN 58 s).2⟩
theorem refR_P (s : List UInt8) : isRefS (refR s) = (refP s).isSome ∧ ∀ r, refP s = some r → refR s = r := by
  unfold refR refP cutN
  cases hc : cutL 58 s with
  | none =>
    refine ⟨?_, fun r h => by cases h⟩
    have : idS [] = false := by rfl
    simp [isRefS, this]
  | some p =>
    obtain ⟨a, b⟩ := p
    cases h : isRefS ⟨a, b⟩
    · simp [h]
    · simp [h]
theorem refref_x (s : List UInt8) (hs : s.length ≤ 1000000) (W : PW) : CallsX Try.prog 30 ⟨[strV s]⟩ [] W fun v _ => v = .tuple ⟨[.agg ⟨refC (refR s)⟩, .bool (isRefS (refR s))]⟩ := by
  refine pureX hmix Try.func30 r30 (by kernel_rfl) [strV s] rfl ?_
  refine call_v rfl (fun W' _ => split_x s 58 hs W') (fun W1 v W2 _ _ hv => ?_)
  obtain ⟨b, rfl⟩ := hv
  refine ⟨_, rfl, _, rfl, _, rfl, ?_⟩
  refine call_v rfl (fun W' _ => isRef_x (refR s) (cutN_len 58 hs) W') (fun W1 v W2 _ _ hv => ?_); subst hv
  exact ret_plain rfl fun _ _ => rfl
def subR (s : List UInt8) : SubS × Bool := if idS s then (⟨s, noRef, []⟩, true) else (⟨[], refR (cutN 35 s).1, (cutN 35 s).2⟩, isRefS (refR (cutN 35 s).1) && wordS (cutN 35 s).2)
theorem setR_P (s : List UInt8) : setP s = if isRefS (refR (cutN 35 s).1) && wordS (cutN 35 s).2 then some (refR (cutN 35 s).1, (cutN 35 s).2) else none := by
  unfold setP cutN
  cases hc : cutL 35 s with
  | none =>
    have : wordS [] = false := by rfl
    simp [this]
  | some p =>
    obtain ⟨a, b⟩ := p
    obtain ⟨h1, h2⟩ := refR_P a
    dsimp only
    rw [h1]
    cases hr : refP a with
    | none => simp
    | some r => cases hw : wordS b <;> simp [h2 r hr]
theorem subR_P (s : List UInt8) : (subR s).2 = (subP s).isSome ∧ ∀ u, subP s = some u → (subR s).1 = u := by
  unfold subR subP
  rw [setR_P]
  cases hi : idS s
  · cases h : (isRefS (refR (cutN 35 s).1) && wordS (cutN 35 s).2) <;> simp
  · simp
theorem refsub_x (s : List UInt8) (hs : s.length ≤ 1000000) (W : PW) : CallsX Try.prog 32 ⟨[strV s]⟩ [] W fun v _ => v = .tuple ⟨[.agg ⟨subC (subR s).1⟩, .bool (subR s).2]⟩ := by
  refine pureX hmix Try.func32 r32 (by kernel_rfl) [strV s] rfl ?_
  refine call_v rfl (fun W' _ => refid_x s hs W') (fun W1 v W2 _ _ hv => ?_); subst hv
  refine br_bool (fun h => ?_) (fun h => ?_)
  · refine ret_plain rfl fun _ _ => ?_
    simp only [subR, h, if_true]; (first | done | rfl)
  · refine call_v rfl (fun W' _ => split_x s 35 hs W') (fun W1 v W2 _ _ hv => ?_)
    obtain ⟨b, rfl⟩ := hv
    refine ⟨_, rfl, _, rfl, _, rfl, ?_⟩
    refine call_v rfl (fun W' _ => refref_x _ (cutN_len 35 hs).1 W') (fun W1 v W2 _ _ hv => ?_); subst hv
    refine ⟨_, rfl, _, rfl, ?_⟩
    refine br_bool (fun h1 => ?_) (fun h1 => ?_)
    · refine call_v rfl (fun W' _ => refword_x _ (cutN_len 35 hs).2 W') (fun W1 v W2 _ _ hv => ?_); subst hv
      refine ret_plain rfl fun _ _ => ?_
      simp only [subR, h, Bool.false_eq_true, if_false, h1, Bool.true_and]; (first | done | rfl)
    · refine ret_plain rfl fun _ _ => ?_
      simp only [subR, h, Bool.false_eq_true, if_false, h1, Bool.false_and]; (first | done | rfl)
theorem tupR_P (s : List UInt8) : tupP s = if isRefS (refR (cutN 35 (cutN 64 s).1).1) && (subR (cutN 64 s).2).2 && wordS (cutN 35 (cutN 64 s).1).2 then some ⟨refR (cutN 35 (cutN 64 s).1).1, (cutN 35 (cutN 64 s).1).2, (subR (cutN 64 s).2).1⟩ else none := by
  have key : ∀ a b : List UInt8, (match setP a, subP b with | some (r, rel), some u => some (⟨r, rel, u⟩ : TupS) | _, _ => none) = if isRefS (refR (cutN 35 a).1) && (subR b).2 && wordS (cutN 35 a).2 then some ⟨refR (cutN 35 a).1, (cutN 35 a).2, (subR b).1⟩ else none := by
    intro a b
    obtain ⟨h1, h2⟩ := subR_P b
    rw [setR_P a, h1]
    cases hs : subP b with
    | none => cases isRefS (refR (cutN 35 a).1) && wordS (cutN 35 a).2 <;> simp
    | some u =>
      rw [h2 u hs]
      cases isRefS (refR (cutN 35 a).1) <;> cases wordS (cutN 35 a).2 <;> simp
  have e : cutN 64 s = match cutL 64 s with | some p => p | none => (s, []) := rfl
  unfold tupP
  cases hc : cutL 64 s with
  | none =>
    rw [hc] at e
    have e : cutN 64 s = (s, []) := e
    rw [e]
    dsimp only
    rw [← key]
    have : subP [] = none := by rfl
    rw [this]; cases setP s <;> rfl
  | some p =>
    obtain ⟨a, b⟩ := p
    rw [hc] at e
    have e : cutN 64 s = (a, b) := e
    rw [e]
    exact key a b
set_option maxHeartbeats 2000000 in
theorem refparse_x (s : List UInt8) (hs : s.length ≤ 1000000) (W : PW) : CallsX Try.prog 34 ⟨[strV s]⟩ [] W fun v _ => v = .tuple ⟨[.agg ⟨tupC (tupM s)⟩, .int .i64 (if (tupP s).isSome then 0 else 4)]⟩ := by
  refine pureX hmix Try.func34 r34 (by kernel_rfl) [strV s] rfl ?_
  have hP := tupR_P s
  refine call_v rfl (fun W' _ => split_x s 64 hs W') (fun W1 v W2 _ _ hv => ?_)
  obtain ⟨b0, rfl⟩ := hv
  refine ⟨_, rfl, _, rfl, _, rfl, ?_⟩
  obtain ⟨l1, l2⟩ := cutN_len 64 hs
  refine call_v rfl (fun W' _ => split_x _ 35 l1 W') (fun W1 v W2 _ _ hv => ?_)
  obtain ⟨b1, rfl⟩ := hv
  refine ⟨_, rfl, _, rfl, _, rfl, ?_⟩
  obtain ⟨l3, l4⟩ := cutN_len 35 l1
  refine call_v rfl (fun W' _ => refref_x _ l3 W') (fun W1 v W2 _ _ hv => ?_); subst hv
  refine ⟨_, rfl, _, rfl, ?_⟩
  refine call_v rfl (fun W' _ => refsub_x _ l2 W') (fun W1 v W2 _ _ hv => ?_); subst hv
  refine ⟨_, rfl, _, rfl, ?_⟩
  have no : tupP s = none → Value.tuple ⟨[.agg ⟨tupC noTup⟩, .int .i64 4]⟩ = .tuple ⟨[.agg ⟨tupC (tupM s)⟩, .int .i64 (if (tupP s).isSome then 0 else 4)]⟩ := fun h => by simp only [tupM, h]; (first | done | rfl)
  refine br_bool (fun h1 => ?_) (fun h1 => ?_)
  · refine ret_plain rfl fun _ _ => no ?_
    rw [hP, show isRefS (refR (cutN 35 (cutN 64 s).1).1) = false by simpa using h1]; (first | done | rfl)
  have h1 : isRefS (refR (cutN 35 (cutN 64 s).1).1) = true := by simpa using h1
  refine br_bool (fun h2 => ?_) (fun h2 => ?_)
  · refine ret_plain rfl fun _ _ => no ?_
    rw [hP, h1, show (subR (cutN 64 s).2).2 = false by simpa using h2]; (first | done | rfl)
  have h2 : (subR (cutN 64 s).2).2 = true := by simpa using h2
  refine call_v rfl (fun W' _ => refword_x _ l4 W') (fun W1 v W2 _ _ hv => ?_); subst hv
  refine br_bool (fun h3 => ?_) (fun h3 => ?_)
  · refine ret_plain rfl fun _ _ => no ?_
    rw [hP, h1, h2, show wordS (cutN 35 (cutN 64 s).1).2 = false by simpa using h3]; (first | done | rfl)
  have h3 : wordS (cutN 35 (cutN 64 s).1).2 = true := by simpa using h3
  refine ret_plain rfl fun _ _ => ?_
  rw [h1, h2, h3] at hP
  have hP : tupP s = some _ := hP
  simp only [tupM, hP]; (first | done | rfl)
end Go.Proofs.Ytcgbcbdgjhnlaaa
