/- The document's functions of layer 11, walked, second part. -/
import Derived.Test.YtcgbcbdgjhnlaaaTupR
namespace Go.Proofs.Ytcgbcbdgjhnlaaa
open Go.RowKit

def cutN (c : UInt8) (s : List UInt8) : List UInt8 × List UInt8 := match cutL c s with | some p => p | none => (s, [])
theorem split_x (s : List UInt8) (c : UInt8) (hs : s.length ≤ 1000000) (W : PW) : CallsX Try.prog 86 ⟨[strV s, .int .u8 c.toNat]⟩ [] W fun v _ => ∃ b, v = .tuple ⟨[strV (cutN c s).1, strV (cutN c s).2, .bool b]⟩ := by
  refine pureX hmix Try.func86 r86 (by kernel_rfl) [strV s, .int .u8 c.toNat] rfl ?_
  refine ⟨Nat, fun i => [(7, .v (.int .i64 i))], fun _ => [], fun _ => [], fun i _ => i ≤ s.length ∧ c ∉ s.take i, fun i => s.length - i, 0,
    all_sl ⟨rfl, trivial⟩, rfl, ole_refl _, ⟨Nat.zero_le _, by simp⟩, loopOK (fun _ => ⟨⟨trivial, rfl⟩, trivial⟩) (fun _ => rfl) (fun _ => rfl), ?_⟩
  intro i W1 l1 ⟨hi, hI⟩ f
  refine ⟨rfl, br_split (fun h => ?_) (fun h => ?_)⟩
  · have h : (i : Int) < s.length := h
    have hil : i < s.length := by omega
    have hb : byteAt s (i : Int).toNat = (s[i]).toNat := byteAt_get (List.getElem?_eq_getElem hil)
    refine ⟨⟨by omega, h⟩, rfl, br_split (fun he => ?_) (fun he => ?_)⟩
    · have he : byteAt s (i : Int).toNat = c.toNat := he
      rw [hb] at he
      have he : s[i] = c := UInt8.toNat_inj.1 (by omega)
      have hsp : s = s.take i ++ c :: s.drop (i + 1) := by
        rw [← he, ← List.drop_eq_getElem_cons hil, List.take_append_drop]
      have hc : cutN c s = (s.take i, s.drop (i + 1)) := by
        unfold cutN
        have := cutL_app (c := c) (s.drop (i + 1)) hI
        rw [← hsp] at this
        rw [this]
      refine ⟨⟨by omega, by omega, h2' hi⟩, rfl, _, (i64_in ((i : Int) + 1) ⟨by omega, by omega⟩).symm, ⟨by omega, by show (i : Int) + 1 ≤ (s.length : Int); omega, Int.le_refl _⟩, ?_⟩
      refine ret_plain rfl fun _ _ => ⟨true, ?_⟩
      rw [hc]
      have e2 : (s.drop ((i : Int) + 1).toNat).take ((s.length : Int).toNat - ((i : Int) + 1).toNat) = s.drop (i + 1) := by
        rw [show ((i : Int) + 1).toNat = i + 1 by omega, List.take_of_length_le]; simp
      show Value.tuple ⟨[strV ((s.drop (0 : Int).toNat).take (i - (0 : Int).toNat)), strV ((s.drop ((i : Int) + 1).toNat).take ((s.length : Int).toNat - ((i : Int) + 1).toNat)), .bool true]⟩ = _
      rw [e2]; rfl
    · have he : ¬ byteAt s (i : Int).toNat = c.toNat := he
      rw [hb] at he
      refine ⟨rfl, _, (i64_in ((i : Int) + 1) ⟨by omega, by omega⟩).symm, i + 1, all_sl ⟨rfl, trivial⟩, rfl, ole_refl _, ⟨hil, ?_⟩, by dsimp only; omega⟩
      rw [List.take_add_one, List.getElem?_eq_getElem hil]
      simp only [Option.toList_some, List.mem_append, List.mem_singleton, not_or]
      exact ⟨hI, fun e => he (by rw [e])⟩
  · have h : ¬ (i : Int) < s.length := h
    rw [List.take_of_length_le (by omega)] at hI
    refine ret_plain rfl fun _ _ => ⟨false, ?_⟩
    have hc : cutL c s = none := by
      cases hc : cutL c s with
      | none => rfl
      | some p => exact absurd (by rw [cutL_some (a := p.1) (b := p.2) hc]; simp) hI
    rw [cutN, hc]; rfl
theorem isRef_x (r : RefS) (h : r.small) (W : PW) : CallsX Try.prog 44 ⟨[.agg ⟨refC r⟩]⟩ [] W fun v _ => v = .bool (isRefS r) := by
  refine pureX hmix Try.func44 r44 (by kernel_rfl) [.agg ⟨refC r⟩] rfl ?_
  refine call_v rfl (fun W' _ => refword_x r.space h.1 W') (fun W1 v W2 _ _ hv => ?_); subst hv
  refine br_bool (fun h1 => ?_) (fun h1 => ?_)
  · refine call_v rfl (fun W' _ => refid_x r.id h.2 W') (fun W1 v W2 _ _ hv => ?_); subst hv
    refine ret_plain rfl fun _ _ => ?_
    rw [isRefS, h1]; rfl
  · refine ret_plain rfl fun _ _ => ?_
    rw [isRefS, h1]; rfl
theorem cutN_len (c : UInt8) {s : List UInt8} {n : Nat} (h : s.length ≤ n) : (cutN c s).1.length ≤ n ∧ (cutN c s).2.length ≤ n := by
  unfold cutN
  cases hc : cutL c s with
  | none => exact ⟨h, Nat.zero_le _⟩
  | some p => obtain ⟨a, b⟩ := p; have := cutL_len hc; exact ⟨by show a.length ≤ n; omega, by show b.length ≤ n; omega⟩
def refR (s : List UInt8) : RefS := ⟨(cutN 58 s).1, (cutN 58 s).2⟩
theorem refR_P (s : List UInt8) : isRefS (refR s) = (refP s).isSome ∧ ∀ r, refP s = some r → refR s = r := by
  unfold refR refP cutN
  cases hc : cutL 58 s with
  | none =>
    refine ⟨?_, fun r h => by cases h⟩
    have : idS [] = false := by rfl
    simp [isRefS, this]
  | some p =>
    obtain ⟨a, b⟩ := p
    cases h : isRefS ⟨a, b⟩
    · simp [h]
    · simp [h]
theorem refref_x (s : List UInt8) (hs : s.length ≤ 1000000) (W : PW) : CallsX Try.prog 30 ⟨[strV s]⟩ [] W fun v _ => v = .tuple ⟨[.agg ⟨refC (refR s)⟩, .bool (isRefS (refR s))]⟩ := by
  refine pureX hmix Try.func30 r30 (by kernel_rfl) [strV s] rfl ?_
  refine call_v rfl (fun W' _ => split_x s 58 hs W') (fun W1 v W2 _ _ hv => ?_)
  obtain ⟨b, rfl⟩ := hv
  refine ⟨_, rfl, _, rfl, _, rfl, ?_⟩
  refine call_v rfl (fun W' _ => isRef_x (refR s) (cutN_len 58 hs) W') (fun W1 v W2 _ _ hv => ?_); subst hv
  exact ret_plain rfl fun _ _ => rfl
def subR (s : List UInt8) : SubS × Bool := if idS s then (⟨s, noRef, []⟩, true) else (⟨[], refR (cutN 35 s).1, (cutN 35 s).2⟩, isRefS (refR (cutN 35 s).1) && wordS (cutN 35 s).2)
theorem setR_P (s : List UInt8) : setP s = if isRefS (refR (cutN 35 s).1) && wordS (cutN 35 s).2 then some (refR (cutN 35 s).1, (cutN 35 s).2) else none := by
  unfold setP cutN
  cases hc : cutL 35 s with
  | none =>
    have : wordS [] = false := by rfl
    simp [this]
  | some p =>
    obtain ⟨a, b⟩ := p
    obtain ⟨h1, h2⟩ := refR_P a
    dsimp only
    rw [h1]
    cases hr : refP a with
    | none => simp
    | some r => cases hw : wordS b <;> simp [h2 r hr]
theorem subR_P (s : List UInt8) : (subR s).2 = (subP s).isSome ∧ ∀ u, subP s = some u → (subR s).1 = u := by
  unfold subR subP
  rw [setR_P]
  cases hi : idS s
  · cases h : (isRefS (refR (cutN 35 s).1) && wordS (cutN 35 s).2) <;> simp
  · simp
theorem refsub_x (s : List UInt8) (hs : s.length ≤ 1000000) (W : PW) : CallsX Try.prog 32 ⟨[strV s]⟩ [] W fun v _ => v = .tuple ⟨[.agg ⟨subC (subR s).1⟩, .bool (subR s).2]⟩ := by
  refine pureX hmix Try.func32 r32 (by kernel_rfl) [strV s] rfl ?_
  refine call_v rfl (fun W' _ => refid_x s hs W') (fun W1 v W2 _ _ hv => ?_); subst hv
  refine br_bool (fun h => ?_) (fun h => ?_)
  · refine ret_plain rfl fun _ _ => ?_
    simp only [subR, h, if_true]; rfl
  · refine call_v rfl (fun W' _ => split_x s 35 hs W') (fun W1 v W2 _ _ hv => ?_)
    obtain ⟨b, rfl⟩ := hv
    refine ⟨_, rfl, _, rfl, _, rfl, ?_⟩
    refine call_v rfl (fun W' _ => refref_x _ (cutN_len 35 hs).1 W') (fun W1 v W2 _ _ hv => ?_); subst hv
    refine ⟨_, rfl, _, rfl, ?_⟩
    refine br_bool (fun h1 => ?_) (fun h1 => ?_)
    · refine call_v rfl (fun W' _ => refword_x _ (cutN_len 35 hs).2 W') (fun W1 v W2 _ _ hv => ?_); subst hv
      refine ret_plain rfl fun _ _ => ?_
      simp only [subR, h, Bool.false_eq_true, if_false, h1, Bool.true_and]; rfl
    · refine ret_plain rfl fun _ _ => ?_
      simp only [subR, h, Bool.false_eq_true, if_false, h1, Bool.false_and]; rfl
theorem tupR_P (s : List UInt8) : tupP s = if isRefS (refR (cutN 35 (cutN 64 s).1).1) && (subR (cutN 64 s).2).2 && wordS (cutN 35 (cutN 64 s).1).2 then some ⟨refR (cutN 35 (cutN 64 s).1).1, (cutN 35 (cutN 64 s).1).2, (subR (cutN 64 s).2).1⟩ else none := by
  have key : ∀ a b : List UInt8, (match setP a, subP b with | some (r, rel), some u => some (⟨r, rel, u⟩ : TupS) | _, _ => none) = if isRefS (refR (cutN 35 a).1) && (subR b).2 && wordS (cutN 35 a).2 then some ⟨refR (cutN 35 a).1, (cutN 35 a).2, (subR b).1⟩ else none := by
    intro a b
    obtain ⟨h1, h2⟩ := subR_P b
    rw [setR_P a, h1]
    cases hs : subP b with
    | none => cases isRefS (refR (cutN 35 a).1) && wordS (cutN 35 a).2 <;> simp
    | some u =>
      rw [h2 u hs]
      cases isRefS (refR (cutN 35 a).1) <;> cases wordS (cutN 35 a).2 <;> simp
  have e : cutN 64 s = match cutL 64 s with | some p => p | none => (s, []) := rfl
  unfold tupP
  cases hc : cutL 64 s with
  | none =>
    rw [hc] at e
    have e : cutN 64 s = (s, []) := e
    rw [e]
    dsimp only
    rw [← key]
    have : subP [] = none := by rfl
    rw [this]; cases setP s <;> rfl
  | some p =>
    obtain ⟨a, b⟩ := p
    rw [hc] at e
    have e : cutN 64 s = (a, b) := e
    rw [e]
    exact key a b
set_option maxHeartbeats 2000000 in
theorem refparse_x (s : List UInt8) (hs : s.length ≤ 1000000) (W : PW) : CallsX Try.prog 34 ⟨[strV s]⟩ [] W fun v _ => v = .tuple ⟨[.agg ⟨tupC (tupM s)⟩, .int .i64 (if (tupP s).isSome then 0 else 4)]⟩ := by
  refine pureX hmix Try.func34 r34 (by kernel_rfl) [strV s] rfl ?_
  have hP := tupR_P s
  refine call_v rfl (fun W' _ => split_x s 64 hs W') (fun W1 v W2 _ _ hv => ?_)
  obtain ⟨b0, rfl⟩ := hv
  refine ⟨_, rfl, _, rfl, _, rfl, ?_⟩
  obtain ⟨l1, l2⟩ := cutN_len 64 hs
  refine call_v rfl (fun W' _ => split_x _ 35 l1 W') (fun W1 v W2 _ _ hv => ?_)
  obtain ⟨b1, rfl⟩ := hv
  refine ⟨_, rfl, _, rfl, _, rfl, ?_⟩
  obtain ⟨l3, l4⟩ := cutN_len 35 l1
  refine call_v rfl (fun W' _ => refref_x _ l3 W') (fun W1 v W2 _ _ hv => ?_); subst hv
  refine ⟨_, rfl, _, rfl, ?_⟩
  refine call_v rfl (fun W' _ => refsub_x _ l2 W') (fun W1 v W2 _ _ hv => ?_); subst hv
  refine ⟨_, rfl, _, rfl, ?_⟩
  have no : tupP s = none → Value.tuple ⟨[.agg ⟨tupC noTup⟩, .int .i64 4]⟩ = .tuple ⟨[.agg ⟨tupC (tupM s)⟩, .int .i64 (if (tupP s).isSome then 0 else 4)]⟩ := fun h => by simp only [tupM, h]; rfl
  refine br_bool (fun h1 => ?_) (fun h1 => ?_)
  · refine ret_plain rfl fun _ _ => no ?_
    rw [hP, show isRefS (refR (cutN 35 (cutN 64 s).1).1) = false by simpa using h1]; rfl
  have h1 : isRefS (refR (cutN 35 (cutN 64 s).1).1) = true := by simpa using h1
  refine br_bool (fun h2 => ?_) (fun h2 => ?_)
  · refine ret_plain rfl fun _ _ => no ?_
    rw [hP, h1, show (subR (cutN 64 s).2).2 = false by simpa using h2]; rfl
  have h2 : (subR (cutN 64 s).2).2 = true := by simpa using h2
  refine call_v rfl (fun W' _ => refword_x _ l4 W') (fun W1 v W2 _ _ hv => ?_); subst hv
  refine br_bool (fun h3 => ?_) (fun h3 => ?_)
  · refine ret_plain rfl fun _ _ => no ?_
    rw [hP, h1, h2, show wordS (cutN 35 (cutN 64 s).1).2 = false by simpa using h3]; rfl
  have h3 : wordS (cutN 35 (cutN 64 s).1).2 = true := by simpa using h3
  refine ret_plain rfl fun _ _ => ?_
  rw [h1, h2, h3] at hP
  have hP : tupP s = some _ := hP
  simp only [tupM, hP]; rfl
end Go.Proofs.Ytcgbcbdgjhnlaaa
