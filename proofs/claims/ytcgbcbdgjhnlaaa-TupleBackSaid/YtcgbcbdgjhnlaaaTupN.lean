/- The statements TupleNames and TupleTexts, walked. -/
import Derived.Test.YtcgbcbdgjhnlaaaTupX
import Derived.Test.YtcgbcbdgjhnlaaaTupP
namespace Go.Proofs.Ytcgbcbdgjhnlaaa
open Go.RowKit

theorem cut_small (t : TupS) : t.cut.small := by
  simp only [TupS.cut, SubS.cut, TupS.small, SubS.small, RefS.small, List.length_take]
  omega
set_option maxRecDepth 20000 in
set_option maxHeartbeats 4000000 in
theorem tupnames_x (s0 : List UInt8) (t0 : TupS) (W : PW) : CallsX Try.prog 8 ⟨[strV s0, .agg ⟨tupC t0⟩]⟩ [] W fun v _ => v = .bool true := by
  refine pureX hmix Try.func8 r8 (by kernel_rfl) [strV s0, .agg ⟨tupC t0⟩] rfl ?_
  refine call_v rfl (fun W' => fun _ => short_x s0 40 W') (fun W1 v W1' _ _ h => ?_)
  obtain ⟨s, hs, rfl⟩ : ∃ s, s.length ≤ 40 ∧ v = strV s := ⟨_, by simp; omega, h⟩
  refine call_v rfl (fun W' => fun _ => shortTup_x t0 W') (fun W1 v W1' _ _ h => ?_)
  obtain ⟨t, ht, rfl⟩ : ∃ t : TupS, t.small ∧ v = .agg ⟨tupC t⟩ := ⟨_, cut_small t0, h⟩
  refine call_v rfl (fun W' _ => word_x s (by omega) W') (fun W2 v W3 _ _ hv => ?_)
  obtain ⟨w, hw, rfl⟩ : ∃ w, wordS s = w ∧ v = .bool w := ⟨_, rfl, hv⟩
  refine call_v rfl (fun W' _ => refword_x s (by omega) W') (fun W2 v W3 _ _ hv => ?_)
  rw [hw] at hv; subst hv
  refine br_t (b := w == w) (by simp) ?_
  refine call_v rfl (fun W' _ => id_x s (by omega) W') (fun W2 v W3 _ _ hv => ?_)
  obtain ⟨i, hi, rfl⟩ : ∃ w, idS s = w ∧ v = .bool w := ⟨_, rfl, hv⟩
  refine call_v rfl (fun W' _ => refid_x s (by omega) W') (fun W2 v W3 _ _ hv => ?_)
  rw [hi] at hv; subst hv
  refine br_t (b := i == i) (by simp) ?_
  refine call_v rfl (fun W' _ => check_x t ht W') (fun W2 v W3 _ _ hv => ?_)
  obtain ⟨c, hc, rfl⟩ : ∃ w, isTupS t = w ∧ v = .int .i64 (okE w) := ⟨_, rfl, hv⟩
  refine ⟨rfl, ?_⟩
  refine call_v rfl (fun W' _ => isTup_x t ht W') (fun W2 v W3 _ _ hv => ?_)
  rw [hc] at hv; subst hv
  refine br_t (b := decide (okE c = 0) == c) (by cases c <;> rfl) ?_
  refine call_v rfl (fun W' _ => checkRef_x t.object ht.1 W') (fun W2 v W3 _ _ hv => ?_)
  obtain ⟨r, hr, rfl⟩ : ∃ w, isRefS t.object = w ∧ v = .int .i64 (okE w) := ⟨_, rfl, hv⟩
  refine ⟨rfl, ?_⟩
  refine call_v rfl (fun W' _ => isRef_x t.object ht.1 W') (fun W2 v W3 _ _ hv => ?_)
  rw [hr] at hv; subst hv
  refine br_t (b := decide (okE r = 0) == r) (by cases r <;> rfl) ?_
  refine call_v rfl (fun W' _ => checkSubject_x t.subject ht.2.2 W') (fun W2 v W3 _ _ hv => ?_)
  obtain ⟨u, hu, rfl⟩ : ∃ w, isSubS t.subject = w ∧ v = .int .i64 (okE w) := ⟨_, rfl, hv⟩
  refine ⟨rfl, ?_⟩
  refine call_v rfl (fun W' _ => isSub_x t.subject ht.2.2 W') (fun W2 v W3 _ _ hv => ?_)
  rw [hu] at hv; subst hv
  refine br_t (b := decide (okE u = 0) == u) (by cases u <;> rfl) ?_
  refine call_v rfl (fun W' _ => check_x t ht W') (fun W2 v W3 _ _ hv => ?_)
  rw [hc] at hv; subst hv
  refine ⟨rfl, ?_⟩
  refine call_v rfl (fun W' _ => isTup_x t ht W') (fun W2 v W3 _ _ hv => ?_)
  rw [hc] at hv; subst hv
  refine br_t (b := decide (okE c = 9) == !c) (by cases c <;> rfl) ?_
  refine call_v rfl (fun W' _ => tuplives_x W') (fun W2 v W3 _ _ hv => ?_)
  subst hv
  exact ret_plain rfl fun _ _ => rfl
set_option maxRecDepth 20000 in
set_option maxHeartbeats 4000000 in
theorem tuptexts_x (t0 : TupS) (W : PW) : CallsX Try.prog 10 ⟨[.agg ⟨tupC t0⟩]⟩ [] W fun v _ => v = .bool true := by
  refine pureX hmix Try.func10 r10 (by kernel_rfl) [.agg ⟨tupC t0⟩] rfl ?_
  refine call_v rfl (fun W' => fun _ => shortTup_x t0 W') (fun W1 v W1' _ _ h => ?_)
  obtain ⟨t, ht, rfl⟩ : ∃ t : TupS, t.small ∧ v = .agg ⟨tupC t⟩ := ⟨_, cut_small t0, h⟩
  obtain ⟨h1, h2⟩ := ht.1
  have l1 := cat_n h1 (b := [58]) (m := 1) (Nat.le_refl _)
  refine call_v rfl (fun W' _ => isRef_x t.object ht.1 W') (fun W2 v W3 _ _ hv => ?_)
  obtain ⟨r, hr, rfl⟩ : ∃ w, isRefS t.object = w ∧ v = .bool w := ⟨_, rfl, hv⟩
  rcases Bool.eq_false_or_eq_true r with rfl | rfl
  case' inl =>
    refine ⟨cat_le h1 (m := 1) (Nat.le_refl _) (by decide), cat_le l1 h2 (by decide), ?_⟩
    have er : (if isRefS t.object then refT t.object else []) = t.object.space ++ [58] ++ t.object.id := by rw [hr]; simp [refT]
  case' inr =>
    have er : (if isRefS t.object then refT t.object else []) = [] := by rw [hr]; rfl
  all_goals
    refine call_v rfl (fun W' _ => isSub_x t.subject ht.2.2 W') (fun W2 v W3 _ _ hv => ?_)
    obtain ⟨u, hu, rfl⟩ : ∃ w, isSubS t.subject = w ∧ v = .bool w := ⟨_, rfl, hv⟩
    rcases Bool.eq_false_or_eq_true u with rfl | rfl
    case' inl =>
      refine call_v rfl (fun W' _ => refsubtxt_x t.subject ht.2.2 W') (fun W2 v W3 _ _ hv => ?_)
      obtain ⟨su, hsu, rfl⟩ : ∃ w, subT t.subject = w ∧ v = strV w := ⟨_, rfl, hv⟩
      have es : (if isSubS t.subject then subT t.subject else []) = su := by rw [hu, hsu]; rfl
    case' inr =>
      have es : (if isSubS t.subject then subT t.subject else []) = [] := by rw [hu]; rfl
    all_goals
      refine call_v rfl (fun W' _ => isTup_x t ht W') (fun W2 v W3 _ _ hv => ?_)
      obtain ⟨c, hc, rfl⟩ : ∃ w, isTupS t = w ∧ v = .bool w := ⟨_, rfl, hv⟩
      rcases Bool.eq_false_or_eq_true c with rfl | rfl
      case' inl =>
        refine call_v rfl (fun W' _ => reftext_x t ht W') (fun W2 v W3 _ _ hv => ?_)
        obtain ⟨wh, hwh, rfl⟩ : ∃ w, tupT t = w ∧ v = strV w := ⟨_, rfl, hv⟩
        have et : (if isTupS t then tupT t else []) = wh := by rw [hc, hwh]; rfl
      case' inr =>
        have et : (if isTupS t then tupT t else []) = [] := by rw [hc]; rfl
      all_goals
        refine call_v rfl (fun W' _ => refText_x t.object ht.1 W') (fun W2 v W3 _ _ hv => ?_)
        rw [er] at hv
        subst hv
        try refine br_split (fun _ => ?_) (fun h => absurd rfl h)
        refine call_v rfl (fun W' _ => subjectText_x t.subject ht.2.2 W') (fun W2 v W3 _ _ hv => ?_)
        rw [es] at hv
        subst hv
        try refine br_split (fun _ => ?_) (fun h => absurd rfl h)
        refine call_v rfl (fun W' _ => tupText_x t ht W') (fun W2 v W3 _ _ hv => ?_)
        rw [et] at hv
        subst hv
        try refine br_split (fun _ => ?_) (fun h => absurd rfl h)
        refine call_v rfl (fun W' _ => tuplives_x W') (fun W2 v W3 _ _ hv => ?_)
        subst hv
        exact ret_plain rfl fun _ _ => rfl
end Go.Proofs.Ytcgbcbdgjhnlaaa
