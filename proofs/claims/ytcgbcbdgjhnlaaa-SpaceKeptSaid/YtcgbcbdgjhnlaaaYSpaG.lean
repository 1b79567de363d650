/- Layer 19 (space): what the law's events are, and (plain) that what was in force stays in force. No statement is proved here. -/
import Derived.Test.YtcgbcbdgjhnlaaaYSpaF
import Derived.Test.YtcgbcbdgjhnlaaaYOpB
import Derived.Test.YtcgbcbdgjhnlaaaYGrA
namespace Go.Proofs.Ytcgbcbdgjhnlaaa
open Go.RowKit

theorem layN_in : ∀ (t : Tr) (m : Nat), ∀ n ∈ layN m t, 4 ≤ n.kind → 0 ≤ n.a ∧ n.a < (m + t.size : Nat) ∧ 0 ≤ n.b ∧ n.b < (m + t.size : Nat)
  | .this, m, n, hn, hk => by
    simp only [layN, List.mem_singleton] at hn
    subst hn; exact absurd hk (by decide)
  | .rel w, m, n, hn, hk => by
    simp only [layN, List.mem_singleton] at hn
    subst hn; exact absurd hk (by decide : ¬ (4 : Int) ≤ 2)
  | .arrow w v, m, n, hn, hk => by
    simp only [layN, List.mem_singleton] at hn
    subst hn; exact absurd hk (by decide : ¬ (4 : Int) ≤ 3)
  | .op k a b, m, n, hn, hk => by
    have ha := a.size_pos
    have hb := b.size_pos
    simp only [layN, List.mem_append, List.mem_singleton] at hn
    simp only [Tr.size]
    rcases hn with (hn | hn) | hn
    · have := layN_in a m n hn hk; omega
    · have := layN_in b (m + a.size) n hn hk; omega
    · subst hn; dsimp only; omega
theorem few_bd (c : ConfS) : BdC (fewC c) := by
  unfold fewC
  refine ⟨by dsimp only; rw [List.length_map, List.length_take]; omega, by dsimp only; rw [List.length_take]; omega, fun s hs => ?_⟩
  obtain ⟨s0, _, rfl⟩ := List.mem_map.1 hs
  unfold fewSp
  refine ⟨by dsimp only; rw [List.length_map, List.length_take]; omega, fun r hr => ?_⟩
  obtain ⟨r0, _, rfl⟩ := List.mem_map.1 hr
  unfold fewRel
  exact ⟨by dsimp only; rw [List.length_take]; omega, by dsimp only; rw [List.length_take]; omega⟩
theorem few_smc {c : ConfS} (h : anyC c) (hr : rightN (fewC c) = true) : SmC (fewC c) := by
  have hbd := few_bd c
  have hok := few_ok h
  unfold rightN at hr
  simp only [Bool.and_eq_true, List.all_eq_true] at hr
  obtain ⟨_, hsp, _⟩ := hr
  refine ⟨fun s hs => ⟨(hok.sp s hs).name, fun r hrm => ?_⟩, hok.sc, hbd.1, fun s hs => (hbd.2.2 s hs).1, hbd.2.1⟩
  have hr2 := (hok.sp s hs).rels r hrm
  obtain ⟨b1, b2⟩ := (hbd.2.2 s hs).2 r hrm
  refine ⟨hr2.name, b1, b2, hr2.types, fun n hn => ⟨?_, fun hk => ?_⟩⟩
  · have hs0 := hs
    unfold fewC at hs0
    obtain ⟨s0, hs1, rfl⟩ := List.mem_map.1 hs0
    unfold fewSp at hrm
    obtain ⟨r0, hr1, rfl⟩ := List.mem_map.1 hrm
    unfold fewRel at hn
    exact ((h.1 s0 (List.mem_of_mem_take hs1)).2 r0 (List.mem_of_mem_take hr1)).2.2 n (List.mem_of_mem_take hn)
  · have h1 := hsp s hs
    unfold spOK at h1
    simp only [Bool.and_eq_true, List.all_eq_true] at h1
    have h2 := h1.2 r hrm
    unfold relOK at h2
    simp only [Bool.and_eq_true, Bool.not_eq_true', decide_eq_false_iff_not] at h2
    obtain ⟨t, _, ht, _⟩ := deep_lay h2.2.1
    rw [ht] at hn ⊢
    have := layN_in t 0 n hn hk
    rw [layN_len]
    omega

structure DoS where
  kind : Int
  rev : Int
  c : ConfS
def doR (W : PW) (d : DoS) (cs : List Value) : Prop := ∃ sv kv, cs = [.int .i64 d.kind, .int .u64 d.rev, sv, kv] ∧ ConfR W d.c [sv, kv]
theorem doR.mono (W W' : PW) (d : DoS) (cs : List Value) (l : W.Le W') (h : doR W d cs) : doR W' d cs := let ⟨sv, kv, e, h⟩ := h; ⟨sv, kv, e, ConfR.mono _ _ _ _ l h⟩
def fewD (n : Nat) (l : List DoS) : List DoS := (l.take n).map fun d => ⟨d.kind, d.rev, fewC d.c⟩
theorem doR.form {W : PW} {d : DoS} {cs : List Value} (h : doR W d cs) : ∃ a1 n1 c1 a2 n2 c2, cs = [.int .i64 d.kind, .int .u64 d.rev, .slice a1 n1 c1, .slice a2 n2 c2] ∧ ConfR W d.c [.slice a1 n1 c1, .slice a2 n2 c2] := by
  obtain ⟨sv, kv, rfl, hC⟩ := h
  obtain ⟨a1, c1, a2, c2, e⟩ := hC.form
  simp only [List.cons.injEq, and_true] at e
  obtain ⟨rfl, rfl⟩ := e
  exact ⟨_, _, _, _, _, _, rfl, hC⟩

def moreE (rev : Int) (h : List EntS × Int) (d : DoS) : List EntS × Int :=
  if d.kind = 0 then ((addS h.1 d.rev d.c).1, h.2) else if d.rev ≤ rev then collS d.rev h.1 h.2 else h
def HOK (xs : List EntS) : Prop := xs.length ≤ 16 ∧ ∀ e ∈ xs, BdC e.c ∧ okCB e.c
theorem addS_ok {xs : List EntS} {rev : Int} {c : ConfS} (h : HOK xs) (hb : BdC c) (ho : okCB c) : HOK (addS xs rev c).1 := by
  unfold addS
  split
  · exact h
  split
  · exact h
  split
  · exact h
  · refine ⟨by dsimp only; rw [List.length_append, List.length_singleton]; omega, fun e he => ?_⟩
    rcases List.mem_append.1 he with he | he
    · exact h.2 e he
    · rw [List.mem_singleton.1 he]; exact ⟨hb, ho⟩
theorem collS_ok (rev : Int) : ∀ (xs : List EntS) (g : Int), (collS rev xs g).1.length ≤ xs.length ∧ (∀ e ∈ (collS rev xs g).1, e ∈ xs) ∧ g ≤ (collS rev xs g).2 ∧ (collS rev xs g).2 ≤ g + xs.length
  | [], g => ⟨Nat.le_refl _, fun e h => h, Int.le_refl _, by show g ≤ g + (0 : Nat); omega⟩
  | [a], g => ⟨Nat.le_refl _, fun e h => h, Int.le_refl _, by show g ≤ g + (1 : Nat); omega⟩
  | a :: b :: r, g => by
    by_cases h : b.rev ≤ rev
    · have e1 : collS rev (a :: b :: r) g = collS rev (b :: r) (g + 1) := if_pos h
      rw [e1]
      obtain ⟨h1, h2, h3, h4⟩ := collS_ok rev (b :: r) (g + 1)
      simp only [List.length_cons] at h1 h4 ⊢
      exact ⟨by omega, fun e he => List.mem_cons_of_mem _ (h2 e he), by omega, by omega⟩
    · have e1 : collS rev (a :: b :: r) g = (a :: b :: r, g) := if_neg h
      rw [e1]
      exact ⟨Nat.le_refl _, fun e h => h, Int.le_refl _, by dsimp only; omega⟩
/-- The newest version is in force at a revision, or comes behind it. -/
def Late (rev : Int) (xs : List EntS) : Prop := ∃ e, xs[xs.length - 1]? = some e ∧ rev ≤ e.rev
theorem lastI_shift (rev : Int) : ∀ (xs : List EntS) (i : Nat) (p : Int), lastI rev xs (i + 1) (p + 1) = lastI rev xs i p + 1
  | [], _, _ => rfl
  | e :: r, i, p => by
    show lastI rev r (i + 1 + 1) (if e.rev ≤ rev then ((i + 1 : Nat) : Int) else p + 1) = lastI rev r (i + 1) (if e.rev ≤ rev then (i : Int) else p) + 1
    by_cases h : e.rev ≤ rev
    · rw [if_pos h, if_pos h]
      exact lastI_shift rev r (i + 1) i
    · rw [if_neg h, if_neg h]
      exact lastI_shift rev r (i + 1) p
theorem lastI_snoc {rev : Int} {e : EntS} (he : ¬ e.rev ≤ rev) : ∀ (xs : List EntS) (i : Nat) (p : Int), lastI rev (xs ++ [e]) i p = lastI rev xs i p
  | [], i, p => by
    show (if e.rev ≤ rev then (i : Int) else p) = p
    rw [if_neg he]
  | a :: r, i, p => lastI_snoc he r (i + 1) _
theorem atS_snoc {rev gone : Int} {e : EntS} (he : ¬ e.rev ≤ rev) (xs : List EntS) : atS (xs ++ [e]) gone rev = atS xs gone rev := by
  have h0 := lastI_snoc he xs 0 (-1)
  rcases lastI_in (rev := rev) xs 0 (-1) with h | ⟨j, x, hx, _, hj⟩
  · rw [atS_no (by omega), atS_no (by omega)]
  · rw [Nat.zero_add] at hj
    have hx' : (xs ++ [e])[j]? = some x := by rw [List.getElem?_append_left (List.getElem?_eq_some_iff.1 hx).1]; exact hx
    rw [atS_yes (h0.trans hj) hx', atS_yes hj hx]
theorem atS_step {rev gone : Int} {a b : EntS} {r : List EntS} (h : b.rev ≤ rev) : atS (a :: b :: r) gone rev = atS (b :: r) (gone + 1) rev := by
  have e1 : ∀ p : Int, lastI rev (a :: b :: r) 0 p = lastI rev r 2 1 := fun p => by
    show lastI rev r 2 (if b.rev ≤ rev then ((0 + 1 : Nat) : Int) else _) = _
    rw [if_pos h]; rfl
  have e2 : ∀ p : Int, lastI rev (b :: r) 0 p = lastI rev r 1 0 := fun p => by
    show lastI rev r 1 (if b.rev ≤ rev then ((0 : Nat) : Int) else _) = _
    rw [if_pos h]; rfl
  have e3 : lastI rev r 2 1 = lastI rev r 1 0 + 1 := lastI_shift rev r 1 0
  rcases lastI_in (rev := rev) (b :: r) 0 (-1) with h1 | ⟨j, x, hx, _, hj⟩
  · rcases lastI_in (rev := rev) r 1 0 with h2 | ⟨j, x, hx, _, hj⟩
    · rw [e2, h2] at h1; exact absurd h1 (by decide)
    · rw [e2, hj] at h1; omega
  · rw [Nat.zero_add] at hj
    have hj' : lastI rev (a :: b :: r) 0 (-1) = ((j + 1 : Nat) : Int) := by rw [e1, e3, ← e2 (-1), hj]; rfl
    rw [atS_yes hj' (by simpa using hx), atS_yes hj hx]
    refine Prod.ext rfl ?_
    dsimp only
    omega
theorem coll_at {rev rev' : Int} (hr : rev' ≤ rev) : ∀ (xs : List EntS) (g : Int), atS (collS rev' xs g).1 (collS rev' xs g).2 rev = atS xs g rev ∧ (Late rev xs → Late rev (collS rev' xs g).1)
  | [], g => ⟨rfl, fun h => h⟩
  | [a], g => ⟨rfl, fun h => h⟩
  | a :: b :: r, g => by
    by_cases h : b.rev ≤ rev'
    · have e1 : collS rev' (a :: b :: r) g = collS rev' (b :: r) (g + 1) := if_pos h
      rw [e1]
      obtain ⟨h1, h2⟩ := coll_at hr (b :: r) (g + 1)
      refine ⟨by rw [h1, atS_step (by omega)], fun ⟨e, he, hl⟩ => h2 ⟨e, ?_, hl⟩⟩
      have : (a :: b :: r).length - 1 = ((b :: r).length - 1) + 1 := by simp
      rw [this, List.getElem?_cons_succ] at he
      exact he
    · have e1 : collS rev' (a :: b :: r) g = (a :: b :: r, g) := if_neg h
      rw [e1]
      exact ⟨rfl, fun h => h⟩
theorem add_at {rev rev' gone : Int} {c : ConfS} {xs : List EntS} (h : Late rev xs) : atS (addS xs rev' c).1 gone rev = atS xs gone rev ∧ Late rev (addS xs rev' c).1 := by
  unfold addS
  split
  · exact ⟨rfl, h⟩
  rename_i hn
  split
  · exact ⟨rfl, h⟩
  split
  · exact ⟨rfl, h⟩
  · obtain ⟨e, he, hl⟩ := h
    have hlt : ¬ rev' ≤ e.rev := fun h => hn ⟨e, he, h⟩
    dsimp only
    refine ⟨atS_snoc (by dsimp only; omega) xs, ⟨rev', c, (numbersS c).1⟩, ?_, by dsimp only; omega⟩
    rw [List.length_append, List.length_singleton, Nat.add_sub_cancel, List.getElem?_append_right (Nat.le_refl _), Nat.sub_self]
    rfl
theorem more_at {rev : Int} {h : List EntS × Int} {d : DoS} (hl : Late rev h.1) : atS (moreE rev h d).1 (moreE rev h d).2 rev = atS h.1 h.2 rev ∧ Late rev (moreE rev h d).1 := by
  unfold moreE
  split
  · exact add_at hl
  split
  · rename_i h1
    obtain ⟨h2, h3⟩ := coll_at h1 h.1 h.2
    exact ⟨h2, h3 hl⟩
  · exact ⟨rfl, hl⟩
end Go.Proofs.Ytcgbcbdgjhnlaaa

