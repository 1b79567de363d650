/- The statement TupleParses, walked. -/
import Derived.Test.YtcgbcbdgjhnlaaaTupQ
namespace Go.Proofs.Ytcgbcbdgjhnlaaa
open Go.RowKit

theorem tuplives_x (W : PW) : CallsX Try.prog 35 ⟨[]⟩ [] W fun v _ => v = .bool true := by
  refine pureX hmix Try.func35 r35 (by kernel_rfl) [] rfl ?_
  have e : tupP [100, 111, 99, 58, 97, 35, 118, 105, 101, 119, 101, 114, 64, 98, 111, 98] = some ⟨⟨[100, 111, 99], [97]⟩, [118, 105, 101, 119, 101, 114], ⟨[98, 111, 98], noRef, []⟩⟩ := by rfl
  refine call_v rfl (fun W' _ => parse_x _ (by decide) W') (fun W2 v W3 _ _ hv => ?_)
  simp only [tupM, e] at hv
  subst hv
  refine ⟨_, rfl, _, rfl, rfl, ?_⟩
  refine call_v rfl (fun W' _ => word_x [100, 111, 99] (by decide) W') (fun W2 v W3 _ _ hv => ?_)
  have hv : v = .bool true := hv
  subst hv
  refine call_v rfl (fun W' _ => word_x [117, 115, 101, 114] (by decide) W') (fun W2 v W3 _ _ hv => ?_)
  have hv : v = .bool false := hv
  subst hv
  exact ret_plain rfl fun _ _ => rfl

theorem eqRef : EqOK Try.prog 42 [42] := ⟨Try.eqGuardType42, fun s hs => by rw [List.mem_singleton.1 hs]; exact Try.stoodInHeld42⟩
theorem eqTup : EqOK Try.prog 54 [54, 42, 48, 42] := ⟨Try.eqGuardType54, fun s hs => by
  simp only [List.mem_cons, List.not_mem_nil, or_false] at hs
  rcases hs with rfl | rfl | rfl | rfl
  · exact Try.stoodInHeld54
  · exact Try.stoodInHeld42
  · exact Try.stoodInHeld48
  · exact Try.stoodInHeld42⟩
/-- What both answer for a reference. -/
theorem refs_two (s : List UInt8) : (∃ r, refP s = some r ∧ refM s = r ∧ refR s = r ∧ isRefS (refR s) = true) ∨ (refP s = none ∧ refM s = noRef ∧ isRefS (refR s) = false) := by
  obtain ⟨h1, h2⟩ := refR_P s
  cases h : refP s with
  | none => exact .inr ⟨rfl, by simp only [refM, h], by rw [h1, h]; rfl⟩
  | some r => exact .inl ⟨r, rfl, by simp only [refM, h], h2 r h, by rw [h1, h]; rfl⟩
theorem subs_two (s : List UInt8) : (∃ r, subP s = some r ∧ subM s = r ∧ (subR s).1 = r ∧ (subR s).2 = true) ∨ (subP s = none ∧ subM s = noSub ∧ (subR s).2 = false) := by
  obtain ⟨h1, h2⟩ := subR_P s
  cases h : subP s with
  | none => exact .inr ⟨rfl, by simp only [subM, h], by rw [h1, h]; rfl⟩
  | some r => exact .inl ⟨r, rfl, by simp only [subM, h], h2 r h, by rw [h1, h]; rfl⟩
set_option maxRecDepth 20000 in
set_option maxHeartbeats 4000000 in
theorem tupparses_x (s0 : List UInt8) (W : PW) : CallsX Try.prog 7 ⟨[strV s0]⟩ [] W fun v _ => v = .bool true := by
  refine pureX hmix Try.func7 r7 (by kernel_rfl) [strV s0] rfl ?_
  refine call_v rfl (fun W' => fun _ => short_x s0 200 W') (fun W1 v W1' _ _ h => ?_)
  obtain ⟨s, hs, rfl⟩ : ∃ s, s.length ≤ 200 ∧ v = strV s := ⟨_, by simp; omega, h⟩
  refine call_v rfl (fun W' _ => ref_x s (by omega) W') (fun W2 v W3 _ _ hv => ?_)
  obtain ⟨a, e, ha, he, rfl⟩ : ∃ (a : RefS) (e : Int), refM s = a ∧ (if (refP s).isSome then (0 : Int) else 4) = e ∧ v = .tuple ⟨[.agg ⟨refC a⟩, .int .i64 e]⟩ := ⟨_, _, rfl, rfl, hv⟩
  refine ⟨_, rfl, _, rfl, ?_⟩
  refine call_v rfl (fun W' _ => refref_x s (by omega) W') (fun W2 v W3 _ _ hv => ?_)
  obtain ⟨b, ok, hb, hok, rfl⟩ : ∃ (b : RefS) (ok : Bool), refR s = b ∧ isRefS (refR s) = ok ∧ v = .tuple ⟨[.agg ⟨refC b⟩, .bool ok]⟩ := ⟨_, _, rfl, rfl, hv⟩
  have k1 : (ok = true ∧ e = 0 ∧ b = a) ∨ (ok = false ∧ e = 4 ∧ a = noRef) := by
    rcases refs_two s with ⟨r, h1, h2, h3, h4⟩ | ⟨h1, h2, h3⟩
    · exact .inl ⟨by rw [← hok, h4], by rw [← he, h1]; rfl, by rw [← hb, ← ha, h2, h3]⟩
    · exact .inr ⟨by rw [← hok, h3], by rw [← he, h1]; rfl, by rw [← ha, h2]⟩
  clear ha he hb hok hv
  rcases k1 with ⟨rfl, rfl, rfl⟩ | ⟨rfl, rfl, rfl⟩
  case' inl =>
    refine ⟨_, rfl, _, rfl, rfl, ?_⟩
    refine ⟨eqRef, ?_⟩
    refine br_f (b := !(decide (b.space = b.space) && (decide (b.id = b.id) && true))) (by simp) ?_
  case' inr =>
    refine ⟨_, rfl, _, rfl, rfl, ?_⟩
    refine ⟨rfl, ?_⟩
    refine ⟨eqRef, ?_⟩
  all_goals
    refine call_v rfl (fun W' _ => subject_x s (by omega) W') (fun W2 v W3 _ _ hv => ?_)
    obtain ⟨a2, e2, ha, he, rfl⟩ : ∃ (a : SubS) (e : Int), subM s = a ∧ (if (subP s).isSome then (0 : Int) else 4) = e ∧ v = .tuple ⟨[.agg ⟨subC a⟩, .int .i64 e]⟩ := ⟨_, _, rfl, rfl, hv⟩
    refine ⟨_, rfl, _, rfl, ?_⟩
    refine call_v rfl (fun W' _ => refsub_x s (by omega) W') (fun W2 v W3 _ _ hv => ?_)
    obtain ⟨b2, ok2, hb, hok, rfl⟩ : ∃ (b : SubS) (ok : Bool), (subR s).1 = b ∧ (subR s).2 = ok ∧ v = .tuple ⟨[.agg ⟨subC b⟩, .bool ok]⟩ := ⟨_, _, rfl, rfl, hv⟩
    have k1 : (ok2 = true ∧ e2 = 0 ∧ b2 = a2) ∨ (ok2 = false ∧ e2 = 4 ∧ a2 = noSub) := by
      rcases subs_two s with ⟨r, h1, h2, h3, h4⟩ | ⟨h1, h2, h3⟩
      · exact .inl ⟨by rw [← hok, h4], by rw [← he, h1]; rfl, by rw [← hb, ← ha, h2, h3]⟩
      · exact .inr ⟨by rw [← hok, h3], by rw [← he, h1]; rfl, by rw [← ha, h2]⟩
    clear ha he hb hok hv
    rcases k1 with ⟨rfl, rfl, rfl⟩ | ⟨rfl, rfl, rfl⟩
    case' inl =>
      refine ⟨_, rfl, _, rfl, rfl, ?_⟩
      refine ⟨eqSub, ?_⟩
      refine br_f (b := !(decide (b2.user = b2.user) && (decide (b2.set.space = b2.set.space) && (decide (b2.set.id = b2.set.id) && (decide (b2.rel = b2.rel) && true))))) (by simp) ?_
    case' inr =>
      refine ⟨_, rfl, _, rfl, rfl, ?_⟩
      refine ⟨rfl, ?_⟩
      refine ⟨eqSub, ?_⟩
    all_goals
      refine call_v rfl (fun W' _ => parse_x s (by omega) W') (fun W2 v W3 _ _ hv => ?_)
      obtain ⟨a3, e3, ha, he, rfl⟩ : ∃ (a : TupS) (e : Int), tupM s = a ∧ (if (tupP s).isSome then (0 : Int) else 4) = e ∧ v = .tuple ⟨[.agg ⟨tupC a⟩, .int .i64 e]⟩ := ⟨_, _, rfl, rfl, hv⟩
      refine ⟨_, rfl, _, rfl, ?_⟩
      refine call_v rfl (fun W' _ => refparse_x s (by omega) W') (fun W2 v W3 _ _ hv => ?_)
      rw [ha, he] at hv
      subst hv
      refine ⟨_, rfl, _, rfl, ?_⟩
      refine ⟨eqTup, ?_⟩
      refine br_t (b := (decide (a3.object.space = a3.object.space) && (decide (a3.object.id = a3.object.id) && (decide (a3.rel = a3.rel) && (decide (a3.subject.user = a3.subject.user) && (decide (a3.subject.set.space = a3.subject.set.space) && (decide (a3.subject.set.id = a3.subject.set.id) && (decide (a3.subject.rel = a3.subject.rel) && true)))))))) (by simp) ?_
      refine ⟨rfl, ?_⟩
      refine br_yes rfl ?_
      refine call_v rfl (fun W' _ => tuplives_x W') (fun W2 v W3 _ _ hv => ?_)
      subst hv
      exact ret_plain rfl fun _ _ => rfl
end Go.Proofs.Ytcgbcbdgjhnlaaa
