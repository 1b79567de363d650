/- Layer 18 (strata), walked: Numbers. -/
import Derived.Test.YtcgbcbdgjhnlaaaVStrI
namespace Go.Proofs.Ytcgbcbdgjhnlaaa
open Go.RowKit

def HasR (c : ConfS) (s : Spot) : Prop := ∃ r, relAt c s = some r
theorem findUp_has {c : ConfS} {l : List TypS} : ∀ {i : Nat} {out : List Spot}, findUp c l i = some out → ∀ s ∈ out, HasR c s
  | 0, out, h => by cases h; exact fun s hs => by cases hs
  | i + 1, out, h => by
    rw [findUp] at h
    split at h
    · rename_i o t h1 h2
      have ih := findUp_has h1
      split at h
      · rename_i s hs
        cases h
        intro q hq
        rcases List.mem_append.1 hq with hq | hq
        · exact ih q hq
        · rw [List.mem_singleton.1 hq]; exact findS_rel hs
      · cases h
    · rename_i o h1 h2
      cases h
      exact findUp_has h1
    · cases h
theorem namedS_has {c : ConfS} {s : Spot} {r : RelS} {n : NodeS} {l : List Spot} (h : namedS c s r n = some l) : ∀ q ∈ l, HasR c q := by
  unfold namedS at h
  split at h
  · cases h
  · exact findUp_has h
theorem edgesUp_has {c : ConfS} {s : Spot} {r : RelS} (hs : HasR c s) : ∀ {i : Nat} {out : List EdgeS}, edgesUp c s r i = some out → ∀ e ∈ out, HasR c e.fs ∧ HasR c e.ts
  | 0, out, h => by cases h; exact fun s hs => by cases hs
  | i + 1, out, h => by
    rw [edgesUp] at h
    split at h
    · rename_i o n h1 h2
      have ih := edgesUp_has hs h1
      split at h
      · rename_i l hl
        cases h
        intro q hq
        rcases List.mem_append.1 hq with hq | hq
        · exact ih q hq
        · obtain ⟨t, ht, rfl⟩ := List.mem_map.1 hq
          exact ⟨hs, namedS_has hl t ht⟩
      · cases h
    · rename_i o h1 h2
      cases h
      exact edgesUp_has hs h1
    · cases h
theorem edgesS_has {c : ConfS} {s : Spot} {out : List EdgeS} (h : edgesS c s = some out) : ∀ e ∈ out, HasR c e.fs ∧ HasR c e.ts := by
  unfold edgesS at h
  split at h
  · cases h
  · rename_i r hr
    split at h
    · cases h
    · exact edgesUp_has ⟨r, hr⟩ h
theorem relsUp_has {c : ConfS} {x : Nat} : ∀ {k : Nat} {out : List EdgeS}, relsUp c x k = some out → ∀ e ∈ out, HasR c e.fs ∧ HasR c e.ts
  | 0, out, h => by cases h; exact fun s hs => by cases hs
  | k + 1, out, h => by
    rw [relsUp] at h
    split at h
    · rename_i o l h1 h2
      cases h
      intro q hq
      rcases List.mem_append.1 hq with hq | hq
      · exact relsUp_has h1 q hq
      · exact edgesS_has h2 q hq
    · cases h
theorem spacesUp_has {c : ConfS} : ∀ {i : Nat} {out : List EdgeS}, spacesUp c i = some out → ∀ e ∈ out, HasR c e.fs ∧ HasR c e.ts
  | 0, out, h => by cases h; exact fun s hs => by cases hs
  | i + 1, out, h => by
    rw [spacesUp] at h
    split at h
    · rename_i o s h1 h2
      have ih := spacesUp_has h1
      split at h
      · rename_i l hl
        cases h
        intro q hq
        rcases List.mem_append.1 hq with hq | hq
        · exact ih q hq
        · exact relsUp_has hl q hq
      · cases h
    · rename_i o h1 h2
      cases h
      exact spacesUp_has h1
    · cases h
theorem allE_has {c : ConfS} {l : List EdgeS} (h : allE c = some l) : ∀ e ∈ l, HasR c e.fs ∧ HasR c e.ts := by
  unfold allE at h
  split at h
  · cases h
  · rename_i o ho
    split at h
    · cases h; exact spacesUp_has ho
    · cases h
theorem allE_len {c : ConfS} (hS : SmC c) {l : List EdgeS} (h : allE c = some l) : l.length ≤ 1000000000000 := by
  unfold allE at h
  split at h
  · cases h
  · rename_i o ho
    split at h
    · cases h
      have := spacesUp_len hS ho
      have := hS.2.2.1
      omega
    · cases h

/-- What newIndex is to do. -/
def NewOK : Prop := ∀ (c : ConfS) (cells : List Value) (W : PW), SmC c → ConfR W c cells → CallsX Try.prog 115 ⟨[.agg ⟨cells⟩]⟩ [] W fun v W' => ∃ p, v = .tuple ⟨[.pointer p, .bool (onceS c)]⟩ ∧ (onceS c = true → ∃ a, p = some a ∧ Idx W' a c)
set_option maxRecDepth 20000 in
set_option maxHeartbeats 16000000 in
theorem numbers_x (hI : NewOK) (c : ConfS) (cells : List Value) (W : PW) (hok : okCB c) (hSm : rightN c = true → SmC c) (h : ConfR W c cells) :
    CallsX Try.prog 62 ⟨[.agg ⟨cells⟩]⟩ [] W fun v W' => ∃ u, v = .tuple ⟨[u, .int .i64 (numbersS c).2]⟩ ∧ NumR W' u (numbersS c).1 := by
  have hnil : ∀ W', NumR W' (.slice none 0 0) [] := fun W' => ⟨[], trivial, SlRead.nil W' _⟩
  obtain ⟨R, hR⟩ : ∃ R, numbersS c = R := ⟨_, rfl⟩
  have hdef : R = (if rightN c = false then (([], 4) : Num × Int) else if onceS c = false then (([], 10) : Num × Int) else match allE c with
    | none => (([], 14) : Num × Int)
    | some l => match settleS c l with | none => (([], 15) : Num × Int) | some n => ((n, 0) : Num × Int)) := by rw [← hR]; rfl
  rw [hR]
  have hcf := h
  obtain ⟨sv, kv, rfl, h1, h2⟩ := h
  obtain ⟨A0, c0, rfl, _, _⟩ := h1.form
  obtain ⟨A1, c1, rfl, _, _⟩ := h2.form
  refine pureX hmix Try.func62 r62 (by kernel_rfl) [.agg ⟨[.slice A0 c.spaces.length c0, .slice A1 c.scopes.length c1]⟩] rfl ?_
  refine call_v rfl (fun W' lw => right_x c _ hok W' (ConfR.mono _ _ _ _ lw hcf)) (fun W1 v W2 l1 l2 hv => ?_)
  subst hv
  obtain ⟨b, hb⟩ : ∃ b, rightN c = b := ⟨_, rfl⟩
  rw [hb] at hdef hSm ⊢
  cases b with
  | false =>
    refine ret_plain rfl fun W' _ => ?_
    rw [hdef, if_pos rfl]
    exact ⟨_, rfl, hnil W'⟩
  | true =>
    rw [if_neg (by decide)] at hdef
    have hS := hSm rfl
    refine call_v rfl (fun W' lw => hI c _ W' hS (ConfR.mono _ _ _ _ (l1.trans (l2.trans lw)) hcf)) (fun W3 v W4 l3 l4 hv => ?_)
    obtain ⟨p, rfl, hp⟩ := hv
    obtain ⟨o, ho⟩ : ∃ o, onceS c = o := ⟨_, rfl⟩
    rw [ho] at hdef hp ⊢
    refine ⟨_, rfl, _, rfl, ?_⟩
    cases o with
    | false =>
      refine ret_plain rfl fun W' _ => ?_
      rw [hdef, if_pos rfl]
      exact ⟨_, rfl, hnil W'⟩
    | true =>
      rw [if_neg (by decide)] at hdef
      obtain ⟨a, rfl, hidx⟩ := hp rfl
      refine call_v rfl (fun W' lw => all_x c hS a W' (hidx.mono lw)) (fun W5 v W6 l5 l6 hv => ?_)
      obtain ⟨u, rfl, hu⟩ := hv
      have hE := fun l h => allE_has (c := c) (l := l) h
      have hL := fun l h => allE_len hS (l := l) h
      obtain ⟨ao, hao⟩ : ∃ ao, allE c = ao := ⟨_, rfl⟩
      rw [hao] at hdef hE hL hu ⊢
      refine ⟨_, rfl, _, rfl, ?_⟩
      cases ao with
      | none =>
        refine ret_plain rfl fun W' _ => ?_
        rw [hdef]
        exact ⟨_, rfl, hnil W'⟩
      | some l =>
        have hu := hu l rfl
        obtain ⟨A2, c2, rfl, _, _⟩ := hu.form
        refine call_v rfl (fun W' lw => settle_x c hS l (hL l rfl) (hE l rfl) a W' (hidx.mono (l5.trans (l6.trans lw))) _ (hu.mono lw)) (fun W7 v W8 l7 l8 hv => ?_)
        obtain ⟨u, rfl, hn⟩ := hv
        dsimp only at hdef
        obtain ⟨so, hso⟩ : ∃ so, settleS c l = so := ⟨_, rfl⟩
        rw [hso] at hdef hn ⊢
        refine ⟨_, rfl, _, rfl, ?_⟩
        cases so with
        | none =>
          refine ret_plain rfl fun W' _ => ?_
          rw [hdef]
          exact ⟨_, rfl, hnil W'⟩
        | some n =>
          refine ret_plain rfl fun W' l' => ?_
          rw [hdef]
          exact ⟨_, rfl, RL.mono (fun W W' x c l h => let ⟨u, e, h⟩ := h; ⟨u, e, h.mono l⟩) l' (hn n rfl)⟩
end Go.Proofs.Ytcgbcbdgjhnlaaa

