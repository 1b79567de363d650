/- The texts of tuples, walked: the program's and the document's; the document's tests of tuples. -/
import Derived.Test.YtcgbcbdgjhnlaaaTupQ
namespace Go.Proofs.Ytcgbcbdgjhnlaaa
open Go.RowKit

theorem cat_le {a b : List UInt8} {n m : Nat} (ha : a.length ≤ n) (hb : b.length ≤ m) (h : n + m ≤ 9223372036854775807) : (a.length : Int) + b.length ≤ 9223372036854775807 := by omega
theorem cat_n {a b : List UInt8} {n m : Nat} (ha : a.length ≤ n) (hb : b.length ≤ m) : (a ++ b).length ≤ n + m := by simp; omega
theorem refT_len {r : RefS} (h : r.small) : (refT r).length ≤ 2000001 := by
  obtain ⟨h1, h2⟩ := h
  simp [refT]; omega
theorem subT_len {s : SubS} (h : s.small) : (subT s).length ≤ 3000002 := by
  obtain ⟨h0, h1, h2⟩ := h
  have := refT_len h1
  unfold subT; split
  · simp; omega
  · omega
theorem reftxt_x (r : RefS) (h : r.small) (W : PW) : CallsX Try.prog 94 ⟨[.agg ⟨refC r⟩]⟩ [] W fun v _ => v = strV (refT r) := by
  refine pureX hmix Try.func94 r94 (by kernel_rfl) [.agg ⟨refC r⟩] rfl ?_
  obtain ⟨h1, h2⟩ := h
  refine ⟨cat_le h1 (m := 1) (Nat.le_refl _) (by decide), cat_le (cat_n h1 (m := 1) (Nat.le_refl _)) h2 (by decide), ?_⟩
  refine ret_plain rfl fun _ _ => ?_
  show strV (r.space ++ [58] ++ r.id) = _
  simp [refT]
theorem subtxt_x (s : SubS) (h : s.small) (W : PW) : CallsX Try.prog 95 ⟨[.agg ⟨subC s⟩]⟩ [] W fun v _ => v = strV (subT s) := by
  refine pureX hmix Try.func95 r95 (by kernel_rfl) [.agg ⟨subC s⟩] rfl ?_
  obtain ⟨u, ⟨sp, id⟩, rel⟩ := s
  refine br_nsplit (fun h0 => ?_) (fun h0 => ?_)
  · have h0 : ¬ u = [] := h0
    refine ret_plain rfl fun _ _ => ?_
    simp [subT, h0]
  · have h0 : u = [] := h0
    obtain ⟨_, hs, hr⟩ := h
    refine call_v rfl (fun W' _ => reftxt_x ⟨sp, id⟩ hs W') (fun W1 v W2 _ _ hv => ?_); subst hv
    have l := refT_len hs
    refine ⟨cat_le l (m := 1) (Nat.le_refl _) (by decide), cat_le (cat_n l (m := 1) (Nat.le_refl _)) hr (by decide), ?_⟩
    refine ret_plain rfl fun _ _ => ?_
    show strV (refT ⟨sp, id⟩ ++ [35] ++ rel) = _
    simp [subT, h0]
theorem refText_x (r : RefS) (h : r.small) (W : PW) : CallsX Try.prog 50 ⟨[.agg ⟨refC r⟩]⟩ [] W fun v _ => v = strV (if isRefS r then refT r else []) := by
  refine pureX hmix Try.func50 r50 (by kernel_rfl) [.agg ⟨refC r⟩] rfl ?_
  refine call_v rfl (fun W' _ => checkRef_x r h W') (fun W1 v W2 _ _ hv => ?_); subst hv
  refine ⟨rfl, br_nsplit (fun h' => ?_) (fun h' => ?_)⟩
  · have h' := okE_false h'
    refine ret_plain rfl fun _ _ => ?_
    rw [h']; rfl
  · have h' := okE_true h'
    refine call_v rfl (fun W' _ => reftxt_x r h W') (fun W1 v W2 _ _ hv => ?_); subst hv
    refine ret_plain rfl fun _ _ => ?_
    rw [h']; rfl
theorem subjectText_x (s : SubS) (h : s.small) (W : PW) : CallsX Try.prog 51 ⟨[.agg ⟨subC s⟩]⟩ [] W fun v _ => v = strV (if isSubS s then subT s else []) := by
  refine pureX hmix Try.func51 r51 (by kernel_rfl) [.agg ⟨subC s⟩] rfl ?_
  refine call_v rfl (fun W' _ => checkSubject_x s h W') (fun W1 v W2 _ _ hv => ?_); subst hv
  refine ⟨rfl, br_nsplit (fun h' => ?_) (fun h' => ?_)⟩
  · have h' := okE_false h'
    refine ret_plain rfl fun _ _ => ?_
    rw [h']; rfl
  · have h' := okE_true h'
    refine call_v rfl (fun W' _ => subtxt_x s h W') (fun W1 v W2 _ _ hv => ?_); subst hv
    refine ret_plain rfl fun _ _ => ?_
    rw [h']; rfl
theorem tupText_x (t : TupS) (h : t.small) (W : PW) : CallsX Try.prog 47 ⟨[.agg ⟨tupC t⟩]⟩ [] W fun v _ => v = strV (if isTupS t then tupT t else []) := by
  refine pureX hmix Try.func47 r47 (by kernel_rfl) [.agg ⟨tupC t⟩] rfl ?_
  refine call_v rfl (fun W' _ => check_x t h W') (fun W1 v W2 _ _ hv => ?_); subst hv
  refine ⟨rfl, br_nsplit (fun h' => ?_) (fun h' => ?_)⟩
  · have h' := okE_false h'
    refine ret_plain rfl fun _ _ => ?_
    rw [h']; rfl
  · have h' := okE_true h'
    refine call_v rfl (fun W' _ => reftxt_x t.object h.1 W') (fun W1 v W2 _ _ hv => ?_); subst hv
    have l1 := cat_n (refT_len h.1) (b := [35]) (m := 1) (Nat.le_refl _)
    have l2 := cat_n l1 h.2.1
    have l3 := cat_n l2 (b := [64]) (m := 1) (Nat.le_refl _)
    refine ⟨cat_le (refT_len h.1) (m := 1) (Nat.le_refl _) (by decide), cat_le l1 h.2.1 (by decide), cat_le l2 (m := 1) (Nat.le_refl _) (by decide), ?_⟩
    refine call_v rfl (fun W' _ => subtxt_x t.subject h.2.2 W') (fun W1 v W2 _ _ hv => ?_); subst hv
    refine ⟨cat_le l3 (subT_len h.2.2) (by decide), ?_⟩
    refine ret_plain rfl fun _ _ => ?_
    rw [h']
    show strV (refT t.object ++ [35] ++ t.rel ++ [64] ++ subT t.subject) = _
    simp [tupT]
theorem refsubtxt_x (s : SubS) (h : s.small) (W : PW) : CallsX Try.prog 48 ⟨[.agg ⟨subC s⟩]⟩ [] W fun v _ => v = strV (subT s) := by
  refine pureX hmix Try.func48 r48 (by kernel_rfl) [.agg ⟨subC s⟩] rfl ?_
  obtain ⟨u, ⟨sp, id⟩, rel⟩ := s
  refine br_nsplit (fun h0 => ?_) (fun h0 => ?_)
  · have h0 : ¬ u = [] := h0
    refine ret_plain rfl fun _ _ => ?_
    simp [subT, h0]
  · have h0 : u = [] := h0
    obtain ⟨_, ⟨h1, h2⟩, hr⟩ := h
    have l1 := cat_n h1 (b := [58]) (m := 1) (Nat.le_refl _)
    have l2 := cat_n l1 h2
    have l3 := cat_n l2 (b := [35]) (m := 1) (Nat.le_refl _)
    refine ⟨cat_le h1 (m := 1) (Nat.le_refl _) (by decide), cat_le l1 h2 (by decide), cat_le l2 (m := 1) (Nat.le_refl _) (by decide), cat_le l3 hr (by decide), ?_⟩
    refine ret_plain rfl fun _ _ => ?_
    show strV (sp ++ [58] ++ id ++ [35] ++ rel) = _
    simp [subT, refT, h0]
theorem reftext_x (t : TupS) (h : t.small) (W : PW) : CallsX Try.prog 49 ⟨[.agg ⟨tupC t⟩]⟩ [] W fun v _ => v = strV (tupT t) := by
  refine pureX hmix Try.func49 r49 (by kernel_rfl) [.agg ⟨tupC t⟩] rfl ?_
  obtain ⟨⟨h1, h2⟩, hr, hs⟩ := h
  have l1 := cat_n h1 (b := [58]) (m := 1) (Nat.le_refl _)
  have l2 := cat_n l1 h2
  have l3 := cat_n l2 (b := [35]) (m := 1) (Nat.le_refl _)
  have l4 := cat_n l3 hr
  have l5 := cat_n l4 (b := [64]) (m := 1) (Nat.le_refl _)
  refine ⟨cat_le h1 (m := 1) (Nat.le_refl _) (by decide), cat_le l1 h2 (by decide), cat_le l2 (m := 1) (Nat.le_refl _) (by decide), cat_le l3 hr (by decide), cat_le l4 (m := 1) (Nat.le_refl _) (by decide), ?_⟩
  refine call_v rfl (fun W' _ => refsubtxt_x t.subject hs W') (fun W1 v W2 _ _ hv => ?_); subst hv
  refine ⟨cat_le l5 (subT_len hs) (by decide), ?_⟩
  refine ret_plain rfl fun _ _ => ?_
  show strV (t.object.space ++ [58] ++ t.object.id ++ [35] ++ t.rel ++ [64] ++ subT t.subject) = _
  simp [tupT, refT]
theorem isSub_x (s : SubS) (h : s.small) (W : PW) : CallsX Try.prog 46 ⟨[.agg ⟨subC s⟩]⟩ [] W fun v _ => v = .bool (isSubS s) := by
  refine pureX hmix Try.func46 r46 (by kernel_rfl) [.agg ⟨subC s⟩] rfl ?_
  obtain ⟨hu, hset, hr⟩ := h
  obtain ⟨u, ⟨sp, id⟩, rel⟩ := s
  refine br_split (fun h0 => ?_) (fun h0 => ?_)
  · have h0 : u = [] := h0
    refine call_v rfl (fun W' _ => isRef_x ⟨sp, id⟩ hset W') (fun W1 v W2 _ _ hv => ?_); subst hv
    refine br_bool (fun h1 => ?_) (fun h1 => ?_)
    · refine call_v rfl (fun W' _ => refword_x rel hr W') (fun W1 v W2 _ _ hv => ?_); subst hv
      refine ret_plain rfl fun _ _ => ?_
      simp only [isSubS, h0, if_true, h1, Bool.true_and]
    · refine ret_plain rfl fun _ _ => ?_
      simp only [isSubS, h0, if_true, h1, Bool.false_and]
  · have h0 : ¬ u = [] := h0
    refine call_v rfl (fun W' _ => refid_x u hu W') (fun W1 v W2 _ _ hv => ?_); subst hv
    refine br_bool (fun h1 => ?_) (fun h1 => ?_)
    · refine br_split (fun h2 => ?_) (fun h2 => ?_)
      · have h2 : sp = [] := h2
        refine br_split (fun h3 => ?_) (fun h3 => ?_)
        · have h3 : id = [] := h3
          refine ret_plain rfl fun _ _ => ?_
          show Value.bool (decide (rel = [])) = _
          simp [isSubS, h0, h1, h2, h3, noRef]
        · have h3 : ¬ id = [] := h3
          refine ret_plain rfl fun _ _ => ?_
          simp [isSubS, h0, h1, h2, h3, noRef]
      · have h2 : ¬ sp = [] := h2
        refine ret_plain rfl fun _ _ => ?_
        simp [isSubS, h0, h1, h2, noRef]
    · refine ret_plain rfl fun _ _ => ?_
      simp only [isSubS, h0, if_false, h1, Bool.false_and]
theorem isTup_x (t : TupS) (h : t.small) (W : PW) : CallsX Try.prog 42 ⟨[.agg ⟨tupC t⟩]⟩ [] W fun v _ => v = .bool (isTupS t) := by
  refine pureX hmix Try.func42 r42 (by kernel_rfl) [.agg ⟨tupC t⟩] rfl ?_
  obtain ⟨ho, hr, hs⟩ := h
  refine call_v rfl (fun W' _ => isRef_x t.object ho W') (fun W1 v W2 _ _ hv => ?_); subst hv
  refine br_bool (fun h1 => ?_) (fun h1 => ?_)
  · refine call_v rfl (fun W' _ => refword_x t.rel hr W') (fun W1 v W2 _ _ hv => ?_); subst hv
    refine br_bool (fun h2 => ?_) (fun h2 => ?_)
    · refine call_v rfl (fun W' _ => isSub_x t.subject hs W') (fun W1 v W2 _ _ hv => ?_); subst hv
      refine ret_plain rfl fun _ _ => ?_
      rw [isTupS, h1, h2]; rfl
    · refine ret_plain rfl fun _ _ => ?_
      rw [isTupS, h1, h2]; rfl
  · refine ret_plain rfl fun _ _ => ?_
    rw [isTupS, h1]; rfl
def SubS.cut (s : SubS) : SubS := ⟨s.user.take 40, ⟨s.set.space.take 40, s.set.id.take 40⟩, s.rel.take 40⟩
def TupS.cut (t : TupS) : TupS := ⟨⟨t.object.space.take 40, t.object.id.take 40⟩, t.rel.take 40, t.subject.cut⟩
theorem shortTup_x (t : TupS) (W : PW) : CallsX Try.prog 36 ⟨[.agg ⟨tupC t⟩]⟩ [] W fun v _ => v = .agg ⟨tupC t.cut⟩ := by
  refine pureX hmix Try.func36 r36 (by kernel_rfl) [.agg ⟨tupC t⟩] rfl ?_
  refine call_v rfl (fun W' _ => short_x _ 40 W') (fun W1 v W2 _ _ hv => ?_); subst hv
  refine call_v rfl (fun W' _ => short_x _ 40 W') (fun W1 v W2 _ _ hv => ?_); subst hv
  refine call_v rfl (fun W' _ => short_x _ 40 W') (fun W1 v W2 _ _ hv => ?_); subst hv
  refine call_v rfl (fun W' _ => short_x _ 40 W') (fun W1 v W2 _ _ hv => ?_); subst hv
  refine call_v rfl (fun W' _ => short_x _ 40 W') (fun W1 v W2 _ _ hv => ?_); subst hv
  refine call_v rfl (fun W' _ => short_x _ 40 W') (fun W1 v W2 _ _ hv => ?_); subst hv
  refine call_v rfl (fun W' _ => short_x _ 40 W') (fun W1 v W2 _ _ hv => ?_); subst hv
  refine ret_plain rfl fun _ _ => ?_
  rfl
end Go.Proofs.Ytcgbcbdgjhnlaaa
