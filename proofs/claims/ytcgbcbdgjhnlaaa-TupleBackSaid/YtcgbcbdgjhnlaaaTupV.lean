/- The program's functions of layer 11, walked, second part: what texts are read as, and their texts. -/
import Derived.Test.YtcgbcbdgjhnlaaaTupW
namespace Go.Proofs.Ytcgbcbdgjhnlaaa
open Go.RowKit

theorem br_t {b : Bool} {X Y : Prop} (h : b = true) (x : X) : Branch X Y b := by subst h; exact x
theorem br_f {b : Bool} {X Y : Prop} (h : b = false) (y : Y) : Branch X Y b := by subst h; exact y

theorem cutL_len {c : UInt8} {s a b : List UInt8} (h : cutL c s = some (a, b)) : a.length ≤ s.length ∧ b.length ≤ s.length := by
  have := congrArg List.length (cutL_some h); simp at this; omega
def refM (s : List UInt8) : RefS := match refP s with | some r => r | none => noRef
theorem ref_x (s : List UInt8) (hs : s.length ≤ 1000000) (W : PW) : CallsX Try.prog 29 ⟨[strV s]⟩ [] W fun v _ => v = .tuple ⟨[.agg ⟨refC (refM s)⟩, .int .i64 (if (refP s).isSome then 0 else 4)]⟩ := by
  refine pureX hmix Try.func29 r29 (by kernel_rfl) [strV s] rfl ?_
  refine call_v rfl (fun W' _ => cut_x s 58 hs W') (fun W1 v W2 _ _ hv => ?_)
  cases hc : cutL 58 s with
  | none =>
    have hv : v = .tuple ⟨[strV s, strV [], .bool false]⟩ := by rw [hv, cutV, hc]
    subst hv
    have e : refP s = none := by rw [refP, hc]
    refine ⟨_, rfl, _, rfl, _, rfl, ?_⟩
    refine ret_plain rfl fun _ _ => ?_
    simp only [refM, e]; rfl
  | some p =>
    obtain ⟨a, b⟩ := p
    obtain ⟨l1, l2⟩ := cutL_len hc
    have hv : v = .tuple ⟨[strV a, strV b, .bool true]⟩ := by rw [hv, cutV, hc]
    subst hv
    refine ⟨_, rfl, _, rfl, _, rfl, ?_⟩
    refine call_v rfl (fun W' _ => checkRef_x ⟨a, b⟩ ⟨by show a.length ≤ _; omega, by show b.length ≤ _; omega⟩ W') (fun W1 v W2 _ _ hv => ?_); subst hv
    refine ⟨rfl, br_nsplit (fun h => ?_) (fun h => ?_)⟩
    · have h := okE_false h
      have e : refP s = none := by rw [refP, hc]; dsimp only; rw [h]; rfl
      refine ret_plain rfl fun _ _ => ?_
      simp only [refM, e]; rfl
    · have h := okE_true h
      have e : refP s = some ⟨a, b⟩ := by rw [refP, hc]; dsimp only; rw [h]; rfl
      refine ret_plain rfl fun _ _ => ?_
      simp only [refM, e]; rfl
theorem ok4_true {b : Bool} (h : (if b then (0 : Int) else 4) = 0) : b = true := by cases b <;> first | rfl | cases h
theorem ok4_false {b : Bool} (h : ¬ (if b then (0 : Int) else 4) = 0) : b = false := by cases b <;> first | rfl | exact absurd rfl h
def setM (s : List UInt8) : RefS × List UInt8 × Bool := match cutL 35 s with
  | some (a, b) => (refM a, b, (refP a).isSome && wordS b)
  | none => (refM s, [], false)
theorem setM_P (s : List UInt8) : (setM s).2.2 = (setP s).isSome ∧ ∀ r b, setP s = some (r, b) → setM s = (r, b, true) := by
  unfold setM setP
  cases hc : cutL 35 s with
  | none => exact ⟨rfl, fun r b h => by cases h⟩
  | some p =>
    obtain ⟨a, b⟩ := p
    dsimp only
    unfold refM
    cases hr : refP a with
    | none => exact ⟨rfl, fun r b h => by cases h⟩
    | some r =>
      cases hw : wordS b
      · exact ⟨rfl, fun r b h => by cases h⟩
      · refine ⟨rfl, fun r' b' h => ?_⟩
        simp only [if_true, Option.some.injEq, Prod.mk.injEq] at h
        obtain ⟨rfl, rfl⟩ := h; rfl
theorem set_x (s : List UInt8) (hs : s.length ≤ 1000000) (W : PW) : CallsX Try.prog 87 ⟨[strV s]⟩ [] W fun v _ => v = .tuple ⟨[.agg ⟨refC (setM s).1⟩, strV (setM s).2.1, .bool (setM s).2.2]⟩ := by
  refine pureX hmix Try.func87 r87 (by kernel_rfl) [strV s] rfl ?_
  refine call_v rfl (fun W' _ => cut_x s 35 hs W') (fun W1 v W2 _ _ hv => ?_)
  cases hc : cutL 35 s with
  | none =>
    have hv : v = .tuple ⟨[strV s, strV [], .bool false]⟩ := by rw [hv, cutV, hc]
    subst hv
    refine ⟨_, rfl, _, rfl, _, rfl, ?_⟩
    refine call_v rfl (fun W' _ => ref_x s hs W') (fun W1 v W2 _ _ hv => ?_); subst hv
    refine ⟨_, rfl, _, rfl, ?_⟩
    refine ret_plain rfl fun _ _ => ?_
    simp only [setM, hc]; rfl
  | some p =>
    obtain ⟨a, b⟩ := p
    obtain ⟨l1, l2⟩ := cutL_len hc
    have hv : v = .tuple ⟨[strV a, strV b, .bool true]⟩ := by rw [hv, cutV, hc]
    subst hv
    refine ⟨_, rfl, _, rfl, _, rfl, ?_⟩
    refine call_v rfl (fun W' _ => ref_x a (by omega) W') (fun W1 v W2 _ _ hv => ?_); subst hv
    refine ⟨_, rfl, _, rfl, rfl, br_split (fun h => ?_) (fun h => ?_)⟩
    · have h := ok4_true h
      refine call_v rfl (fun W' _ => word_x b (by omega) W') (fun W1 v W2 _ _ hv => ?_); subst hv
      refine ret_plain rfl fun _ _ => ?_
      simp only [setM, hc, h]; rfl
    · have h := ok4_false h
      refine ret_plain rfl fun _ _ => ?_
      simp only [setM, hc, h]; rfl
def subM (s : List UInt8) : SubS := match subP s with | some u => u | none => noSub
theorem subject_x (s : List UInt8) (hs : s.length ≤ 1000000) (W : PW) : CallsX Try.prog 31 ⟨[strV s]⟩ [] W fun v _ => v = .tuple ⟨[.agg ⟨subC (subM s)⟩, .int .i64 (if (subP s).isSome then 0 else 4)]⟩ := by
  refine pureX hmix Try.func31 r31 (by kernel_rfl) [strV s] rfl ?_
  refine call_v rfl (fun W' _ => id_x s hs W') (fun W1 v W2 _ _ hv => ?_); subst hv
  refine br_bool (fun h => ?_) (fun h => ?_)
  · refine ret_plain rfl fun _ _ => ?_
    simp only [subM, subP, h, if_true]; rfl
  · refine call_v rfl (fun W' _ => set_x s hs W') (fun W1 v W2 _ _ hv => ?_); subst hv
    obtain ⟨h1, h2⟩ := setM_P s
    refine ⟨_, rfl, _, rfl, _, rfl, ?_⟩
    cases hp : setP s with
    | none =>
      rw [hp] at h1
      refine br_t (by show (!(setM s).2.2) = true; rw [h1]; rfl) ?_
      refine ret_plain rfl fun _ _ => ?_
      simp only [subM, subP, h, Bool.false_eq_true, if_false, hp]; rfl
    | some p =>
      obtain ⟨r, b⟩ := p
      have h3 := h2 r b hp
      refine br_f (by show (!(setM s).2.2) = false; rw [h3]; rfl) ?_
      refine ret_plain rfl fun _ _ => ?_
      simp only [subM, subP, h, Bool.false_eq_true, if_false, hp, h3]; rfl
def tupM (s : List UInt8) : TupS := match tupP s with | some u => u | none => noTup
set_option maxHeartbeats 2000000 in
theorem parse_x (s : List UInt8) (hs : s.length ≤ 1000000) (W : PW) : CallsX Try.prog 33 ⟨[strV s]⟩ [] W fun v _ => v = .tuple ⟨[.agg ⟨tupC (tupM s)⟩, .int .i64 (if (tupP s).isSome then 0 else 4)]⟩ := by
  refine pureX hmix Try.func33 r33 (by kernel_rfl) [strV s] rfl ?_
  refine call_v rfl (fun W' _ => cut_x s 64 hs W') (fun W1 v W2 _ _ hv => ?_)
  obtain ⟨a, b, d, hl, rfl, hP⟩ : ∃ a b d, (a.length ≤ 1000000 ∧ b.length ≤ 1000000) ∧ v = .tuple ⟨[strV a, strV b, .bool d]⟩ ∧ tupP s = match setP a, subP b with | some (r, rel), some u => some ⟨r, rel, u⟩ | _, _ => none := by
    rw [hv]; unfold cutV tupP
    cases hc : cutL 64 s with
    | none =>
      refine ⟨s, [], false, ⟨hs, by decide⟩, rfl, ?_⟩
      have : subP [] = none := by rfl
      rw [this]; cases setP s <;> rfl
    | some p =>
      obtain ⟨a, b⟩ := p
      obtain ⟨l1, l2⟩ := cutL_len hc
      exact ⟨a, b, true, ⟨by omega, by omega⟩, rfl, rfl⟩
  refine ⟨_, rfl, _, rfl, _, rfl, ?_⟩
  refine call_v rfl (fun W' _ => set_x a hl.1 W') (fun W1 v W2 _ _ hv => ?_); subst hv
  refine ⟨_, rfl, _, rfl, _, rfl, ?_⟩
  refine call_v rfl (fun W' _ => subject_x b hl.2 W') (fun W1 v W2 _ _ hv => ?_); subst hv
  refine ⟨_, rfl, _, rfl, ?_⟩
  obtain ⟨h1, h2⟩ := setM_P a
  cases hp : setP a with
  | none =>
    rw [hp] at h1 hP
    refine br_t (by show (!(setM a).2.2) = true; rw [h1]; rfl) ?_
    refine ret_plain rfl fun _ _ => ?_
    have : tupP s = none := hP
    simp only [tupM, this]; rfl
  | some p =>
    obtain ⟨r, rel⟩ := p
    have h3 := h2 r rel hp
    rw [hp] at hP
    refine br_f (by show (!(setM a).2.2) = false; rw [h3]; rfl) ⟨rfl, br_nsplit (fun h => ?_) (fun h => ?_)⟩
    · have h := ok4_false h
      refine ret_plain rfl fun _ _ => ?_
      have : tupP s = none := by rw [hP]; cases hq : subP b with | none => rfl | some u => rw [hq] at h; cases h
      simp only [tupM, this]; rfl
    · have h := ok4_true h
      refine ret_plain rfl fun _ _ => ?_
      cases hq : subP b with
      | none => rw [hq] at h; cases h
      | some u =>
        rw [hq] at hP
        have : tupP s = some ⟨r, rel, u⟩ := hP
        simp only [tupM, this, subM, hq, h3]; rfl
end Go.Proofs.Ytcgbcbdgjhnlaaa
