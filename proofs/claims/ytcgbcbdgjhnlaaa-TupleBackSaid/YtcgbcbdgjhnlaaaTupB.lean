/- The statement TupleBack, walked. -/
import Derived.Test.YtcgbcbdgjhnlaaaTupN
namespace Go.Proofs.Ytcgbcbdgjhnlaaa
open Go.RowKit

theorem wordS_len {s : List UInt8} (h : wordS s = true) : s.length ≤ 32 := by
  have h := wordS_all h
  simp only [allS, Bool.and_eq_true, decide_eq_true_eq] at h; exact h.2.2
theorem idS_len {s : List UInt8} (h : idS s = true) : s.length ≤ 32 := by
  simp only [idS, allS, Bool.and_eq_true, decide_eq_true_eq] at h; exact h.2.2
theorem refS_len {r : RefS} (h : isRefS r = true) : r.space.length ≤ 32 ∧ r.id.length ≤ 32 := by
  simp only [isRefS, Bool.and_eq_true] at h
  exact ⟨wordS_len h.1, idS_len h.2⟩
theorem subS_len {s : SubS} (h : isSubS s = true) : s.user.length ≤ 32 ∧ (s.set.space.length ≤ 32 ∧ s.set.id.length ≤ 32) ∧ s.rel.length ≤ 32 := by
  simp only [isSubS] at h
  split at h
  · rename_i hu
    simp only [Bool.and_eq_true] at h
    exact ⟨by rw [hu]; decide, refS_len h.1, wordS_len h.2⟩
  · simp only [Bool.and_eq_true, decide_eq_true_eq] at h
    refine ⟨idS_len h.1, ?_⟩
    rw [h.2]; exact ⟨⟨Nat.zero_le _, Nat.zero_le _⟩, Nat.zero_le _⟩
theorem tup_is_small {t : TupS} (h : isTupS t = true) : t.small ∧ (tupT t).length ≤ 1000 := by
  simp only [isTupS, Bool.and_eq_true] at h
  obtain ⟨a1, a2⟩ := refS_len h.1.1
  have a3 := wordS_len h.1.2
  obtain ⟨b1, ⟨b2, b3⟩, b4⟩ := subS_len h.2
  have hs : (subT t.subject).length ≤ 100 := by
    unfold subT; split
    · simp [refT]; omega
    · omega
  refine ⟨?_, by simp [tupT, refT]; omega⟩
  simp only [TupS.small, SubS.small, RefS.small]; omega
theorem tup_eqb (t u : TupS) : (decide (t.object.space = u.object.space) && (decide (t.object.id = u.object.id) && (decide (t.rel = u.rel) && (decide (t.subject.user = u.subject.user) && (decide (t.subject.set.space = u.subject.set.space) && (decide (t.subject.set.id = u.subject.set.id) && (decide (t.subject.rel = u.subject.rel) && true))))))) = decide (t = u) := by
  obtain ⟨⟨a, b⟩, c, ⟨d, ⟨e, f⟩, g⟩⟩ := t
  obtain ⟨⟨a', b'⟩, c', ⟨d', ⟨e', f'⟩, g'⟩⟩ := u
  rw [Bool.eq_iff_iff]
  simp [and_assoc]
theorem tup_parsed (s : List UInt8) : (∃ y, isTupS y = true ∧ tupT y = s ∧ tupM s = y ∧ (if (tupP s).isSome then (0 : Int) else 4) = 0) ∨ (if (tupP s).isSome then (0 : Int) else 4) = 4 := by
  cases h : tupP s with
  | none => exact .inr rfl
  | some y =>
    obtain ⟨h1, h2⟩ := tupP_some h
    exact .inl ⟨y, h2, h1, by simp only [tupM, h], rfl⟩
set_option maxRecDepth 20000 in
set_option maxHeartbeats 4000000 in
theorem tupback_x (t0 u0 : TupS) (s0 : List UInt8) (W : PW) : CallsX Try.prog 9 ⟨[.agg ⟨tupC t0⟩, .agg ⟨tupC u0⟩, strV s0]⟩ [] W fun v _ => v = .bool true := by
  refine pureX hmix Try.func9 r9 (by kernel_rfl) [.agg ⟨tupC t0⟩, .agg ⟨tupC u0⟩, strV s0] rfl ?_
  refine call_v rfl (fun W' => fun _ => shortTup_x t0 W') (fun W1 v W1' _ _ h => ?_)
  obtain ⟨t, ht, rfl⟩ : ∃ t : TupS, t.small ∧ v = .agg ⟨tupC t⟩ := ⟨_, cut_small t0, h⟩
  refine call_v rfl (fun W' => fun _ => shortTup_x u0 W') (fun W1 v W1' _ _ h => ?_)
  obtain ⟨u, hu, rfl⟩ : ∃ t : TupS, t.small ∧ v = .agg ⟨tupC t⟩ := ⟨_, cut_small u0, h⟩
  refine call_v rfl (fun W' => fun _ => short_x s0 200 W') (fun W1 v W1' _ _ h => ?_)
  obtain ⟨s, hs, rfl⟩ : ∃ s, s.length ≤ 200 ∧ v = strV s := ⟨_, by simp; omega, h⟩
  refine call_v rfl (fun W' _ => tupText_x t ht W') (fun W2 v W3 _ _ hv => ?_)
  obtain ⟨c, hc⟩ : ∃ c, isTupS t = c := ⟨_, rfl⟩
  obtain ⟨d, hd⟩ : ∃ c, isTupS u = c := ⟨_, rfl⟩
  obtain ⟨tt, htt⟩ : ∃ c, tupT t = c := ⟨_, rfl⟩
  obtain ⟨uu, huu⟩ : ∃ c, tupT u = c := ⟨_, rfl⟩
  have inj : c = true → d = true → (decide (tt = uu) == decide (t = u)) = true := by
    rintro rfl rfl
    have := tupT_inj hc hd
    rw [htt, huu] at this
    simp [this]
  rw [hc, htt] at hv
  obtain ⟨p, hpl, hp, rfl⟩ : ∃ p : List UInt8, p.length ≤ 1000 ∧ (c = true → tupP p = some t) ∧ v = strV p := by
    refine ⟨_, ?_, ?_, hv⟩
    · cases c
      · exact Nat.zero_le _
      · rw [if_pos rfl, ← htt]; exact (tup_is_small hc).2
    · rintro rfl
      rw [if_pos rfl, ← htt]; exact tupP_text hc
  refine call_v rfl (fun W' _ => parse_x p (by omega) W') (fun W2 v W3 _ _ hv => ?_)
  obtain ⟨x, e, hxe, rfl⟩ : ∃ (x : TupS) (e : Int), (c = true → t = x ∧ e = 0) ∧ v = .tuple ⟨[.agg ⟨tupC x⟩, .int .i64 e]⟩ := by
    refine ⟨_, _, fun h => ?_, hv⟩
    have := hp h
    exact ⟨by simp only [tupM, this], by rw [this]; rfl⟩
  refine ⟨_, rfl, _, rfl, ?_⟩
  refine call_v rfl (fun W' _ => check_x t ht W') (fun W2 v W3 _ _ hv => ?_)
  rw [hc] at hv
  subst hv
  refine ⟨rfl, ?_⟩
  rcases Bool.eq_false_or_eq_true c with rfl | rfl
  case' inl =>
    obtain ⟨rfl, rfl⟩ := hxe rfl
    refine ⟨rfl, eqTup, ?_⟩
    refine br_f (b := !(decide (t.object.space = t.object.space) && (decide (t.object.id = t.object.id) && (decide (t.rel = t.rel) && (decide (t.subject.user = t.subject.user) && (decide (t.subject.set.space = t.subject.set.space) && (decide (t.subject.set.id = t.subject.set.id) && (decide (t.subject.rel = t.subject.rel) && true)))))))) (by simp) ?_
  all_goals
    refine call_v rfl (fun W' _ => parse_x s (by omega) W') (fun W2 v W3 _ _ hv => ?_)
    have ht' := ht
    have key : (∃ y : TupS, y.small ∧ isTupS y = true ∧ tupT y = s ∧ v = .tuple ⟨[.agg ⟨tupC y⟩, .int .i64 0]⟩) ∨ (∃ y : TupS, v = .tuple ⟨[.agg ⟨tupC y⟩, .int .i64 4]⟩) := by
      rcases tup_parsed s with ⟨y, h1, h2, h3, h4⟩ | h4
      · rw [h3, h4] at hv
        exact .inl ⟨y, (tup_is_small h1).1, h1, h2, hv⟩
      · rw [h4] at hv
        exact .inr ⟨_, hv⟩
    clear hv
    rcases key with ⟨y, hy1, hy2, hy3, rfl⟩ | ⟨y, rfl⟩
    case' inl =>
      refine ⟨_, rfl, _, rfl, rfl, ?_⟩
      refine call_v rfl (fun W' _ => tupText_x y hy1 W') (fun W2 v W3 _ _ hv => ?_)
      rw [hy2, if_pos rfl, hy3] at hv
      subst hv
      refine br_nsplit (fun h => absurd rfl h) (fun _ => ?_)
    case' inr =>
      refine ⟨_, rfl, _, rfl, rfl, ?_⟩
    all_goals
      refine call_v rfl (fun W' _ => check_x t ht W') (fun W2 v W3 _ _ hv => ?_)
      rw [hc] at hv
      subst hv
      refine ⟨rfl, ?_⟩
  case inr.inl | inr.inr =>
    refine call_v rfl (fun W' _ => tuplives_x W') (fun W2 v W3 _ _ hv => ?_)
    subst hv
    exact ret_plain rfl fun _ _ => rfl
  case inl.inl | inl.inr =>
    refine call_v rfl (fun W' _ => check_x u hu W') (fun W2 v W3 _ _ hv => ?_)
    rw [hd] at hv
    subst hv
    refine ⟨rfl, ?_⟩
    rcases Bool.eq_false_or_eq_true d with rfl | rfl
    · refine ⟨eqTup, ?_⟩
      refine call_v rfl (fun W' _ => tupText_x t ht W') (fun W2 v W3 _ _ hv => ?_)
      rw [hc, if_pos rfl, htt] at hv
      subst hv
      refine call_v rfl (fun W' _ => tupText_x u hu W') (fun W2 v W3 _ _ hv => ?_)
      rw [hd, if_pos rfl, huu] at hv
      subst hv
      refine br_bool (fun hb => ?_) (fun hb => ?_)
      · refine call_v rfl (fun W' _ => tuplives_x W') (fun W2 v W3 _ _ hv => ?_)
        subst hv
        exact ret_plain rfl fun _ _ => rfl
      · have hj := inj rfl rfl
        rw [← tup_eqb] at hj
        exact Bool.noConfusion (hj.symm.trans hb)
    · refine call_v rfl (fun W' _ => tuplives_x W') (fun W2 v W3 _ _ hv => ?_)
      subst hv
      exact ret_plain rfl fun _ _ => rfl
end Go.Proofs.Ytcgbcbdgjhnlaaa
