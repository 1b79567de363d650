/- Words, ids, texts of tuples: the document's answer, and its laws. -/
import Derived.Test.YtcgbcbdgjhnlaaaLexL
namespace Go.Proofs.Ytcgbcbdgjhnlaaa
/-! ## Words, ids, texts of tuples -/
def smallB (c : UInt8) : Bool := decide (97 ≤ c.toNat) && decide (c.toNat ≤ 122)
def figB (c : UInt8) : Bool := (decide (48 ≤ c.toNat) && decide (c.toNat ≤ 57)) || decide (c.toNat = 95)
def wordB (c : UInt8) : Bool := smallB c || figB c
def idB (c : UInt8) : Bool := smallB c || figB c || (decide (65 ≤ c.toNat) && decide (c.toNat ≤ 90)) || decide (c.toNat = 46) || decide (c.toNat = 45)
def kept : List (List UInt8) := [[117, 115, 101, 114], [116, 104, 105, 115], [110, 97, 109, 101, 115, 112, 97, 99, 101], [114, 101, 108, 97, 116, 105, 111, 110], [115, 99, 111, 112, 101]]
def allS (p : UInt8 → Bool) (s : List UInt8) : Bool := s.all p && (decide (1 ≤ s.length) && decide (s.length ≤ 32))
def wordS (s : List UInt8) : Bool := !decide (s ∈ kept) && (allS wordB s && match s with | c :: _ => smallB c | [] => false)
def idS (s : List UInt8) : Bool := allS idB s
def cutL (c : UInt8) : List UInt8 → Option (List UInt8 × List UInt8)
  | [] => none
  | x :: r => if x = c then some ([], r) else match cutL c r with | some (a, b) => some (x :: a, b) | none => none
structure RefS where
  space : List UInt8
  id : List UInt8
  deriving DecidableEq
structure SubS where
  user : List UInt8
  set : RefS
  rel : List UInt8
  deriving DecidableEq
structure TupS where
  object : RefS
  rel : List UInt8
  subject : SubS
  deriving DecidableEq
def noRef : RefS := ⟨[], []⟩
def noSub : SubS := ⟨[], noRef, []⟩
def noTup : TupS := ⟨noRef, [], noSub⟩
def isRefS (r : RefS) : Bool := wordS r.space && idS r.id
def isSubS (s : SubS) : Bool := if s.user = [] then isRefS s.set && wordS s.rel else idS s.user && decide (s = ⟨s.user, noRef, []⟩)
def isTupS (t : TupS) : Bool := isRefS t.object && wordS t.rel && isSubS t.subject
def refT (r : RefS) : List UInt8 := r.space ++ 58 :: r.id
def subT (s : SubS) : List UInt8 := if s.user = [] then refT s.set ++ 35 :: s.rel else s.user
def tupT (t : TupS) : List UInt8 := refT t.object ++ 35 :: (t.rel ++ 64 :: subT t.subject)
def refP (s : List UInt8) : Option RefS := match cutL 58 s with | some (a, b) => if isRefS ⟨a, b⟩ then some ⟨a, b⟩ else none | none => none
def setP (s : List UInt8) : Option (RefS × List UInt8) := match cutL 35 s with
  | some (a, b) => match refP a with | some r => if wordS b then some (r, b) else none | none => none
  | none => none
def subP (s : List UInt8) : Option SubS := if idS s then some ⟨s, noRef, []⟩ else match setP s with | some (r, b) => some ⟨[], r, b⟩ | none => none
def tupP (s : List UInt8) : Option TupS := match cutL 64 s with
  | some (a, b) => match setP a, subP b with | some (r, rel), some u => some ⟨r, rel, u⟩ | _, _ => none
  | none => none

theorem cutL_some {c : UInt8} : ∀ {s a b : List UInt8}, cutL c s = some (a, b) → s = a ++ c :: b
  | x :: r, a, b, h => by
    simp only [cutL] at h
    split at h
    · rename_i hx
      simp only [Option.some.injEq, Prod.mk.injEq] at h
      obtain ⟨rfl, rfl⟩ := h; rw [hx]; rfl
    · split at h
      · rename_i a' b' hr
        simp only [Option.some.injEq, Prod.mk.injEq] at h
        obtain ⟨rfl, rfl⟩ := h; rw [cutL_some hr]; rfl
      · cases h
theorem cutL_app {c : UInt8} (b : List UInt8) : ∀ {a : List UInt8}, c ∉ a → cutL c (a ++ c :: b) = some (a, b)
  | [], _ => by simp [cutL]
  | x :: a, h => by
    have h1 : ¬ x = c := fun e => h (e ▸ List.mem_cons_self ..)
    have h2 := cutL_app (c := c) b (a := a) fun e => h (List.mem_cons_of_mem _ e)
    simp [cutL, h1, h2]
theorem allS_no {p : UInt8 → Bool} {c : UInt8} (hp : p c = false) {s : List UInt8} (h : allS p s = true) : c ∉ s := by
  intro hc
  simp only [allS, Bool.and_eq_true, List.all_eq_true] at h
  have := h.1 c hc
  rw [hp] at this; cases this
theorem wordS_all {s : List UInt8} (h : wordS s = true) : allS wordB s = true := by
  simp only [wordS, Bool.and_eq_true] at h; exact h.2.1
theorem isRef_no {c : UInt8} (h1 : idB c = false) (h2 : wordB c = false) (h3 : c ≠ 58) {r : RefS} (h : isRefS r = true) : c ∉ refT r := by
  simp only [isRefS, Bool.and_eq_true] at h
  intro hc
  simp only [refT, List.mem_append, List.mem_cons] at hc
  rcases hc with hc | hc | hc
  · exact allS_no h2 (wordS_all h.1) hc
  · exact h3 hc
  · exact allS_no h1 h.2 hc
theorem refP_text {r : RefS} (h : isRefS r = true) : refP (refT r) = some r := by
  have h' := h
  simp only [isRefS, Bool.and_eq_true] at h'
  simp only [refP, refT, cutL_app r.id (allS_no (c := 58) (by decide) (wordS_all h'.1)), h, if_true]
theorem setP_text {r : RefS} {b : List UInt8} (h : isRefS r = true) (hb : wordS b = true) : setP (refT r ++ 35 :: b) = some (r, b) := by
  simp only [setP, cutL_app b (isRef_no (c := 35) (by decide) (by decide) (by decide) h), refP_text h, hb, if_true]
theorem nonempty_of_idS {s : List UInt8} (h : idS s = true) : ¬ s = [] := by
  rintro rfl; revert h; decide
theorem subP_text {s : SubS} (h : isSubS s = true) : subP (subT s) = some s := by
  simp only [isSubS] at h
  split at h
  · rename_i hu
    simp only [Bool.and_eq_true] at h
    have hn : idS (refT s.set ++ 35 :: s.rel) = false := by
      cases hi : idS (refT s.set ++ 35 :: s.rel) with
      | false => rfl
      | true => exact absurd (List.mem_append_right _ (List.mem_cons_self ..)) (allS_no (c := 35) (by decide) hi)
    simp only [subP, subT, hu, if_true, hn, Bool.false_eq_true, if_false, setP_text h.1 h.2]
    obtain ⟨u, r, b⟩ := s
    simp only at hu; subst hu; rfl
  · rename_i hu
    simp only [Bool.and_eq_true, decide_eq_true_eq] at h
    simp only [subP, subT, hu, if_false, h.1, if_true]
    rw [← h.2]
theorem tupP_text {t : TupS} (h : isTupS t = true) : tupP (tupT t) = some t := by
  simp only [isTupS, Bool.and_eq_true] at h
  have e : tupT t = (refT t.object ++ 35 :: t.rel) ++ 64 :: subT t.subject := by simp [tupT]
  have hn : (64 : UInt8) ∉ refT t.object ++ 35 :: t.rel := by
    intro hc
    simp only [List.mem_append, List.mem_cons] at hc
    rcases hc with hc | hc | hc
    · exact isRef_no (c := 64) (by decide) (by decide) (by decide) h.1.1 hc
    · revert hc; decide
    · exact allS_no (c := 64) (by decide) (wordS_all h.1.2) hc
  simp only [tupP, e, cutL_app _ hn, setP_text h.1.1 h.1.2, subP_text h.2]
theorem refP_some {s : List UInt8} {r : RefS} (h : refP s = some r) : refT r = s ∧ isRefS r = true := by
  simp only [refP] at h
  split at h
  · rename_i a b hc
    split at h
    · rename_i hr
      simp only [Option.some.injEq] at h; subst h
      exact ⟨(cutL_some hc).symm, hr⟩
    · cases h
  · cases h
theorem setP_some {s b : List UInt8} {r : RefS} (h : setP s = some (r, b)) : refT r ++ 35 :: b = s ∧ isRefS r = true ∧ wordS b = true := by
  simp only [setP] at h
  split at h
  · rename_i a b' hc
    split at h
    · rename_i r' hr
      split at h
      · rename_i hw
        simp only [Option.some.injEq, Prod.mk.injEq] at h
        obtain ⟨rfl, rfl⟩ := h
        obtain ⟨h1, h2⟩ := refP_some hr
        exact ⟨by rw [h1, ← cutL_some hc], h2, hw⟩
      · cases h
    · cases h
  · cases h
theorem subP_some {s : List UInt8} {u : SubS} (h : subP s = some u) : subT u = s ∧ isSubS u = true := by
  simp only [subP] at h
  split at h
  · rename_i hi
    simp only [Option.some.injEq] at h; subst h
    have hn := nonempty_of_idS hi
    exact ⟨by simp only [subT, hn, if_false], by simp only [isSubS, hn, if_false, hi, Bool.true_and, decide_true]⟩
  · split at h
    · rename_i r b hs
      simp only [Option.some.injEq] at h; subst h
      obtain ⟨h1, h2, h3⟩ := setP_some hs
      exact ⟨by simp only [subT, if_true, h1], by simp only [isSubS, if_true, h2, h3, Bool.and_true]⟩
    · cases h
theorem tupP_some {s : List UInt8} {t : TupS} (h : tupP s = some t) : tupT t = s ∧ isTupS t = true := by
  simp only [tupP] at h
  split at h
  · rename_i a b hc
    split at h
    · rename_i r rel u hs hu
      simp only [Option.some.injEq] at h; subst h
      obtain ⟨h1, h2, h3⟩ := setP_some hs
      obtain ⟨h4, h5⟩ := subP_some hu
      refine ⟨?_, by simp only [isTupS, h2, h3, h5, Bool.and_true]⟩
      rw [cutL_some hc, ← h1, ← h4]
      simp [tupT]
    · cases h
  · cases h
theorem tupT_inj {t u : TupS} (ht : isTupS t = true) (hu : isTupS u = true) : tupT t = tupT u ↔ t = u :=
  ⟨fun h => by have := tupP_text ht; rw [h, tupP_text hu] at this; exact (Option.some.inj this).symm, fun h => h ▸ rfl⟩
end Go.Proofs.Ytcgbcbdgjhnlaaa
