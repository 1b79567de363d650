/- Layer 18 (strata), plain: the numbers that the program settles are the least, and are what the document reckons. No program here. -/
import Derived.Test.YtcgbcbdgjhnlaaaGreatXMG
import Derived.Test.YtcgbcbdgjhnlaaaGreatXMC
import Derived.Test.YtcgbcbdgjhnlaaaGreatXMF
namespace Go.Proofs.YtcgbcbdgjhnlaaaGreat

def toF (c : ConfS) (e : EdgeS) : FE := ⟨ixS c e.fs, ixS c e.ts, e.ab⟩
def feD (e : DE) : FE := ⟨e.f, e.t.toNat, e.ab⟩
theorem feD_toD (c : ConfS) (e : EdgeS) : feD (toD c e) = toF c e := by
  show (⟨ixS c e.fs, ((ixS c e.ts : Nat) : Int).toNat, e.ab⟩ : FE) = _
  rw [Int.toNat_natCast]; rfl
def fl (n : Num) (k : Nat) : Nat := n.flatten.getD k 0
theorem allP_len : ∀ ss : List SpaceS, (allP ss).length = (ss.map fun s => s.rels.length).sum
  | [] => rfl
  | s :: ss => by rw [allP_cons, List.length_append, List.length_map, allP_len ss, List.map_cons, List.sum_cons]
theorem off_len {c : ConfS} {n : Num} (h : ShN c n) (i : Nat) : (allP (c.spaces.take i)).length = ((n.take i).flatten).length := by
  unfold ShN at h
  rw [allP_len, List.length_flatten, List.map_take, List.map_take, h]
theorem row_get {c : ConfS} {n : Num} (h : ShN c n) {s : Spot} {r : RelS} (hs : relAt c s = some r) : ∃ row, n[s.1]? = some row ∧ s.2 < row.length := by
  obtain ⟨sp, h1, h2, _⟩ := relAt_get hs
  have hi : s.1 < n.length := by rw [shN_len h]; exact (List.getElem?_eq_some_iff.1 h1).1
  have hrow : n[s.1]? = some n[s.1] := List.getElem?_eq_getElem hi
  refine ⟨_, hrow, ?_⟩
  have hl : n[s.1].length = sp.rels.length := by
    have e : (n.map List.length)[s.1]? = (c.spaces.map fun s => s.rels.length)[s.1]? := by rw [h]
    rw [List.getElem?_map, List.getElem?_map, hrow, h1] at e
    exact Option.some.inj e
  rw [hl]; exact (List.getElem?_eq_some_iff.1 h2).1
theorem flat_split {n : Num} {i : Nat} {row : List Nat} (h : n[i]? = some row) : n.flatten = (n.take i).flatten ++ (row ++ (n.drop (i + 1)).flatten) := by
  conv => lhs; rw [split_at h]
  rw [List.flatten_append, List.flatten_cons]
theorem fl_get {c : ConfS} {n : Num} (h : ShN c n) {s : Spot} {r : RelS} (hs : relAt c s = some r) : fl n (ixS c s) = getN n s := by
  obtain ⟨row, h1, h2⟩ := row_get h hs
  unfold fl getN ixS ixP
  rw [off_len h, flat_split h1, h1, List.getD_eq_getElem?_getD, List.getElem?_append_right (by omega), Nat.add_sub_cancel_left, List.getElem?_append_left h2]; rfl
theorem fl_set {c : ConfS} {n : Num} (h : ShN c n) {s : Spot} {r : RelS} (hs : relAt c s = some r) (x : Nat) : fl (setN n s x) = fun k => if k = ixS c s then x else fl n k := by
  obtain ⟨row, h1, h2⟩ := row_get h hs
  have hi := (List.getElem?_eq_some_iff.1 h1).1
  have e : (setN n s x).flatten = n.flatten.set (ixS c s) x := by
    unfold setN ixS ixP
    rw [h1, Option.getD_some, List.set_eq_take_append_cons_drop, if_pos hi, List.flatten_append, List.flatten_cons, off_len h, flat_split h1, List.set_append_right _ _ (by omega), Nat.add_sub_cancel_left, List.set_append_left _ _ h2]
  have hlt : ixS c s < n.flatten.length := by
    unfold ixS ixP
    rw [off_len h, flat_split h1, List.length_append, List.length_append]; omega
  funext k
  unfold fl
  rw [e, List.getD_eq_getElem?_getD, List.getElem?_set]
  by_cases hk : k = ixS c s
  · rw [if_pos hk.symm, if_pos hlt, if_pos hk]; rfl
  · rw [if_neg (fun e => hk e.symm), if_neg hk, List.getD_eq_getElem?_getD]
theorem fl_zero (c : ConfS) (k : Nat) : fl (zeroN c) k = 0 := by
  unfold fl
  rw [List.getD_eq_getElem?_getD]
  cases h : (zeroN c).flatten[k]? with
  | none => rfl
  | some x =>
    obtain ⟨r, hr, hx⟩ := List.mem_flatten.1 (List.mem_of_getElem? h)
    exact Nat.le_zero.1 (bndN_zero c r hr x hx)
theorem rise_fl {c : ConfS} {n : Num} (h : ShN c n) {e : EdgeS} (hf : ∃ r, relAt c e.fs = some r) (ht : ∃ r, relAt c e.ts = some r) :
    ShN c (riseN n e).1 ∧ fl (riseN n e).1 = riseF (fl n) (toF c e) ∧ ((riseN n e).2 = false → (riseN n e).1 = n ∧ fl n (toF c e).t + (toF c e).w ≤ fl n (toF c e).f) ∧ (fl n (toF c e).t + (toF c e).w ≤ fl n (toF c e).f → riseN n e = (n, false)) := by
  obtain ⟨rf, hf⟩ := hf
  obtain ⟨rt, ht⟩ := ht
  have g1 : fl n (toF c e).f = getN n e.fs := fl_get h hf
  have g2 : fl n (toF c e).t + (toF c e).w = leastN n e := by
    show fl n (ixS c e.ts) + (toF c e).w = _
    rw [fl_get h ht]; rfl
  rw [g1, g2]
  unfold riseN riseF
  rw [g1, g2]
  by_cases hq : leastN n e ≤ getN n e.fs
  · rw [if_pos hq, if_pos hq]
    exact ⟨h, rfl, fun _ => ⟨rfl, hq⟩, fun _ => rfl⟩
  · rw [if_neg hq, if_neg hq]
    exact ⟨setN_sh h _ _, fl_set h hf _, fun h => (Bool.noConfusion h), fun h => absurd h hq⟩
theorem roundF_snoc (e : FE) : ∀ (l : List FE) (x : Nat → Nat), roundF x (l ++ [e]) = riseF (roundF x l) e
  | [], _ => rfl
  | a :: l, x => roundF_snoc e l (riseF x a)
theorem round_fl {c : ConfS} {n : Num} (h : ShN c n) {l : List EdgeS} (hE : ∀ e ∈ l, (∃ r, relAt c e.fs = some r) ∧ ∃ r, relAt c e.ts = some r) :
    ∀ i : Nat, i ≤ l.length → ShN c (roundUp l n i).1 ∧ fl (roundUp l n i).1 = roundF (fl n) ((l.take i).map (toF c)) ∧ ((roundUp l n i).2 = false → (roundUp l n i).1 = n ∧ quietF (fl n) ((l.take i).map (toF c))) ∧ (quietF (fl n) ((l.take i).map (toF c)) → roundUp l n i = (n, false))
  | 0, _ => ⟨h, rfl, fun _ => ⟨rfl, fun e he => by cases he⟩, fun _ => rfl⟩
  | i + 1, hi => by
    have hx : l[i]? = some l[i] := List.getElem?_eq_getElem hi
    obtain ⟨h1, h2, h3, h4⟩ := round_fl h hE i (by omega)
    obtain ⟨hf, ht⟩ := hE l[i] (List.getElem_mem hi)
    obtain ⟨r1, r2, r3, r4⟩ := rise_fl h1 hf ht
    have em : (l.take (i + 1)).map (toF c) = (l.take i).map (toF c) ++ [toF c l[i]] := by
      rw [List.take_add_one, hx, Option.toList_some, List.map_append, List.map_singleton]
    rw [round_succ hx, em, roundF_snoc, ← h2]
    refine ⟨r1, r2, fun hb => ?_, fun hq => ?_⟩
    · obtain ⟨b1, b2⟩ := Bool.or_eq_false_iff.1 hb
      obtain ⟨k1, k2⟩ := h3 b2
      obtain ⟨k3, k4⟩ := r3 b1
      refine ⟨k3.trans k1, fun e he => ?_⟩
      rcases List.mem_append.1 he with he | he
      · exact k2 e he
      · rw [List.mem_singleton.1 he]
        rw [k1] at k4; exact k4
    · have k1 := h4 fun e he => hq e (List.mem_append_left _ he)
      have k2 := hq (toF c l[i]) (List.mem_append_right _ (List.mem_singleton.2 rfl))
      rw [k1] at r4 ⊢
      rw [r4 k2]; rfl
theorem settle_some {c : ConfS} {l : List EdgeS} (hE : ∀ e ∈ l, (∃ r, relAt c e.fs = some r) ∧ ∃ r, relAt c e.ts = some r) :
    ∀ (f : Nat) (n n' : Num) (N : Nat), ShN c n → (∀ k, fl n k ≤ lev (l.map (toF c)) N k) → settleGo l f n = some n' → ShN c n' ∧ ClosedF (l.map (toF c)) (fl n') ∧ ∃ N', ∀ k, fl n' k ≤ lev (l.map (toF c)) N' k
  | 0, _, _, _, _, _, h => by cases h
  | f + 1, n, n', N, hn, hN, h => by
    obtain ⟨h1, h2, h3, _⟩ := round_fl hn hE l.length (Nat.le_refl _)
    rw [List.take_length] at h2 h3
    simp only [settleGo] at h
    split at h
    · obtain ⟨N', hN'⟩ := roundF_lev (l.map (toF c)) (fl n) N (fun e he => he) hN
      exact settle_some hE f _ n' N' h1 (fun k => by rw [h2]; exact hN' k) h
    · rename_i hb
      obtain ⟨k1, k2⟩ := h3 (by simpa using hb)
      obtain rfl := Option.some.inj h
      rw [k1]
      exact ⟨hn, k2, N, hN⟩
theorem settle_none {c : ConfS} {l : List EdgeS} (hE : ∀ e ∈ l, (∃ r, relAt c e.fs = some r) ∧ ∃ r, relAt c e.ts = some r) {m : Nat → Nat} (hm : Least (l.map (toF c)) m) {P : Nat} (hw : Within (l.map (toF c)) P) :
    ∀ (f : Nat) (n : Num) (s : Nat), ShN c n → (∀ k, lev (l.map (toF c)) s k ≤ fl n k) → (∀ k, fl n k ≤ m k) → P ≤ s + f → 0 < f → settleGo l f n = none → False
  | f + 1, n, s, hn, hs, hnm, hP, _, h => by
    obtain ⟨h1, h2, h3, h4⟩ := round_fl hn hE l.length (Nat.le_refl _)
    rw [List.take_length] at h2 h3 h4
    simp only [settleGo] at h
    rcases Nat.lt_or_ge (s + 1) P with hlt | hge
    · split at h
      · refine settle_none hE hm hw f _ (s + 1) h1 (fun k => ?_) (fun k => ?_) (by omega) (by omega) h
        · rw [h2]; exact roundF_next hs k
        · rw [h2]; exact roundF_le hm.closed _ _ (fun e he => he) hnm k
      · cases h
    · have hq : quietF (fl n) (l.map (toF c)) := fun e he => by
        have e1 := hm.soon hw hge e.t
        have e2 := hm.soon hw hge e.f
        have e3 := hs e.t
        have e4 := hs e.f
        have e5 := hnm e.t
        have e6 := hnm e.f
        have e7 := hm.closed e he
        omega
      rw [h4 hq] at h
      cases h
theorem within_of {c : ConfS} {l : List EdgeS} (hE : ∀ e ∈ l, (∃ r, relAt c e.fs = some r) ∧ ∃ r, relAt c e.ts = some r) : Within (l.map (toF c)) (allD c).length := by
  intro e he
  obtain ⟨q, hq, rfl⟩ := List.mem_map.1 he
  obtain ⟨⟨r1, h1⟩, r2, h2⟩ := hE q hq
  exact ⟨ix_lt h1, ix_lt h2⟩
theorem settle_least {c : ConfS} {l : List EdgeS} (hE : ∀ e ∈ l, (∃ r, relAt c e.fs = some r) ∧ ∃ r, relAt c e.ts = some r) {n' : Num} (h : settleS c l = some n') : ShN c n' ∧ Least (l.map (toF c)) (fl n') := by
  obtain ⟨h1, h2, N, h3⟩ := settle_some hE _ (zeroN c) n' 0 (shN_zero c) (fun k => by rw [fl_zero]; exact Nat.zero_le _) h
  exact ⟨h1, fun s k => lev_closed h2 s k, fun k => ⟨N, h3 k⟩⟩
theorem settle_no {c : ConfS} {l : List EdgeS} (hE : ∀ e ∈ l, (∃ r, relAt c e.fs = some r) ∧ ∃ r, relAt c e.ts = some r) (h : settleS c l = none) (m : Nat → Nat) : ¬ Least (l.map (toF c)) m := fun hm =>
  settle_none hE hm (within_of hE) ((keysS c).length + 1) (zeroN c) 0 (shN_zero c) (fun _ => Nat.zero_le _) (fun k => by rw [fl_zero]; exact Nat.zero_le _) (by rw [keys_len]; omega) (by omega) h

def rowL (c : ConfS) (i : Nat) : Nat := ((c.spaces[i]?).map fun s => s.rels.length).getD 0
def rowF (c : ConfS) (x : Nat → Nat) (i : Nat) : List Nat := (List.range (rowL c i)).map fun k => x ((allP (c.spaces.take i)).length + k)
def rowsF (c : ConfS) (x : Nat → Nat) : Num := (List.range c.spaces.length).map (rowF c x)
theorem rows_fl {c : ConfS} {n : Num} (h : ShN c n) : rowsF c (fl n) = n := by
  apply List.ext_getElem?
  intro i
  unfold rowsF
  rw [List.getElem?_map]
  rcases Nat.lt_or_ge i c.spaces.length with hi | hi
  · have hi2 : i < n.length := by rw [shN_len h]; exact hi
    have hrow : n[i]? = some n[i] := List.getElem?_eq_getElem hi2
    have hsp : c.spaces[i]? = some c.spaces[i] := List.getElem?_eq_getElem hi
    have hl : n[i].length = c.spaces[i].rels.length := by
      have e : (n.map List.length)[i]? = (c.spaces.map fun s => s.rels.length)[i]? := by rw [h]
      rw [List.getElem?_map, List.getElem?_map, hrow, hsp] at e
      exact Option.some.inj e
    rw [List.getElem?_range hi, hrow]
    show some (rowF c (fl n) i) = some n[i]
    congr 1
    have hrl : rowL c i = c.spaces[i].rels.length := by unfold rowL; rw [hsp]; rfl
    apply List.ext_getElem?
    intro k
    unfold rowF
    rw [List.getElem?_map, hrl]
    rcases Nat.lt_or_ge k c.spaces[i].rels.length with hk | hk
    · rw [List.getElem?_range hk]
      show some (fl n (ixS c (i, k))) = _
      have hr : relAt c (i, k) = some c.spaces[i].rels[k] := by unfold relAt; rw [hsp]; exact List.getElem?_eq_getElem hk
      rw [fl_get h hr]
      unfold getN
      show some ((((n[i]?).getD [])[k]?).getD 0) = _
      rw [hrow, Option.getD_some, List.getElem?_eq_getElem (by omega)]; rfl
    · rw [List.getElem?_eq_none (by rw [List.length_range]; exact hk), List.getElem?_eq_none (by omega)]; rfl
  · rw [List.getElem?_eq_none (by rw [List.length_range]; exact hi), List.getElem?_eq_none (by rw [shN_len h]; exact hi)]; rfl
def okL (E : List FE) (N : Nat) (i : Nat) : Bool := decide (lev E (N + 1) i = lev E ((N + 1) * (N + 1)) i) && decide (lev E (N + 1) i < N)
def numbersD (T : List NodeS → Tr) (c : ConfS) : Num × Int :=
  if rightN c = false then ([], 4) else if onceS c = false then ([], 10) else if (edgesD T c).2 = false then ([], 14) else
    if (List.range (allD c).length).all (okL ((edgesD T c).1.map feD) (allD c).length) = false then ([], 15) else (rowsF c (lev ((edgesD T c).1.map feD) ((allD c).length + 1)), 0)
theorem map_feD (c : ConfS) (es : List EdgeS) : (es.map (toD c)).map feD = es.map (toF c) := by
  rw [List.map_map]
  exact List.map_congr_left fun e _ => feD_toD c e
theorem numbers_is {T : List NodeS → Tr} (hT : TreeF T) (c : ConfS) : numbersD T c = numbersS c ∧ ((numbersS c).2 = 0 → (edgesD T c).2 = true ∧ ShN c (numbersS c).1 ∧ Least ((edgesD T c).1.map feD) (fl (numbersS c).1) ∧ Within ((edgesD T c).1.map feD) (allD c).length) ∧ (¬ (numbersS c).2 = 0 → (numbersS c).1 = []) := by
  unfold numbersD numbersS
  cases hr : rightN c with
  | false => exact ⟨rfl, fun h => absurd (show (4 : Int) = 0 from h) (by decide), fun _ => rfl⟩
  | true =>
  cases ho : onceS c with
  | false => exact ⟨rfl, fun h => absurd (show (10 : Int) = 0 from h) (by decide), fun _ => rfl⟩
  | true =>
  simp only [Bool.true_eq_false, if_false]
  have hE := fun l h => allE_has (c := c) (l := l) h
  rcases all_sim hT (right_good hr) with ⟨es, h1, h2, h3⟩ | ⟨h1, h2⟩
  · have hE := hE es h1
    rw [h1, h2]
    simp only [Bool.true_eq_false, if_false]
    rw [← h3, map_feD]
    have hw := within_of hE
    cases hs : settleS c es with
    | some n =>
      obtain ⟨k1, k2⟩ := settle_least hE hs
      have e1 : lev (es.map (toF c)) ((allD c).length + 1) = fl n := funext fun k => k2.soon hw (by omega) k
      have e2 : lev (es.map (toF c)) (((allD c).length + 1) * ((allD c).length + 1)) = fl n := funext fun k => k2.soon hw (Nat.le_trans (Nat.le_succ (allD c).length) (Nat.le_trans (Nat.le_mul_of_pos_right ((allD c).length + 1) (Nat.succ_pos (allD c).length)) (Nat.le_succ _))) k
      have hall : (List.range (allD c).length).all (okL (es.map (toF c)) (allD c).length) = true := by
        rw [List.all_eq_true]
        intro i hi
        unfold okL
        rw [e1, e2, decide_eq_true rfl, decide_eq_true (k2.small hw (List.mem_range.1 hi))]; rfl
      rw [hall, if_neg (by decide), e1, rows_fl k1]
      exact ⟨rfl, fun _ => ⟨by first | rfl | trivial, k1, k2, hw⟩, fun h => absurd rfl h⟩
    | none =>
      have hno := settle_no hE hs
      have hall : (List.range (allD c).length).all (okL (es.map (toF c)) (allD c).length) = false := by
        rw [← Bool.not_eq_true]
        intro hall
        rw [List.all_eq_true] at hall
        refine hno _ (Least.of_fix (E := es.map (toF c)) (s := (allD c).length + 1) fun k => ?_)
        rcases Nat.lt_or_ge k (allD c).length with hk | hk
        · have h4 := hall k (List.mem_range.2 hk)
          unfold okL at h4
          rw [Bool.and_eq_true, decide_eq_true_eq] at h4
          refine Nat.le_antisymm ?_ (lev_step _ _ _)
          rw [h4.1]
          refine lev_le _ ?_ k
          have : (allD c).length + 1 + 1 ≤ ((allD c).length + 1) * 2 := by omega
          exact Nat.le_trans this (Nat.mul_le_mul_left _ (by omega))
        · have h0 : ∀ s, lev (es.map (toF c)) s k = 0 := fun s => by
            cases s with
            | zero => rfl
            | succ s => exact Nat.le_zero.1 (askF_le fun e he hf => by have := (hw e he).1; omega)
          rw [h0, h0]
      rw [hall, if_pos rfl]
      exact ⟨rfl, fun h => absurd (show (15 : Int) = 0 from h) (by decide), fun _ => rfl⟩
  · rw [h1, h2]
    exact ⟨rfl, fun h => absurd (show (14 : Int) = 0 from h) (by decide), fun _ => rfl⟩
end Go.Proofs.YtcgbcbdgjhnlaaaGreat

/- Layer 18 (strata), the document's reckoning of numbers walked: so many steps, all at once. No statement is proved here. -/
namespace Go.Proofs.YtcgbcbdgjhnlaaaGreat
open Go.RowKit

def nowO (g n : Nat) (xs : List Nat) : Own := ⟨.slice (some ⟨g, 0, none⟩) n n, 3, 1, n, xs.map natV⟩
def tabL (n : Nat) (x : Nat → Nat) : List Nat := (List.range n).map x
theorem tab_len (n : Nat) (x : Nat → Nat) : (tabL n x).length = n := by unfold tabL; rw [List.length_map, List.length_range]
theorem tab_get {n k : Nat} (x : Nat → Nat) (h : k < n) : (tabL n x)[k]? = some (x k) := by
  unfold tabL
  rw [List.getElem?_map, List.getElem?_range h]; rfl
theorem tab_zero (n : Nat) : tabL n (fun _ => 0) = List.replicate n 0 := by
  apply List.ext_getElem?
  intro k
  rcases Nat.lt_or_ge k n with h | h
  · rw [tab_get _ h, List.getElem?_replicate, if_pos h]
  · rw [List.getElem?_eq_none (by rw [tab_len]; exact h), List.getElem?_eq_none (by rw [List.length_replicate]; exact h)]
theorem tab_set {n f v : Nat} {x y : Nat → Nat} (h : ∀ k, y k = if k = f then v else x k) : tabL n y = (tabL n x).set f v := by
  apply List.ext_getElem?
  intro k
  rw [List.getElem?_set]
  rcases Nat.lt_or_ge k n with hk | hk
  · rw [tab_get _ hk, h k]
    by_cases e : k = f
    · subst e
      rw [if_pos rfl, if_pos rfl, if_pos (by rw [tab_len]; exact hk)]
    · rw [if_neg e, if_neg (fun e2 => e e2.symm), tab_get _ hk]
  · rw [List.getElem?_eq_none (by rw [tab_len]; exact hk)]
    split
    · rw [if_neg (by rw [tab_len]; omega)]
    · rw [List.getElem?_eq_none (by rw [tab_len]; exact hk)]
theorem tab_congr {n : Nat} {x y : Nat → Nat} (h : ∀ k, y k = x k) : tabL n y = tabL n x := by rw [funext h]
theorem natV_get {n k : Nat} (x : Nat → Nat) (h : k < n) : ((tabL n x).map natV)[k * 1]? = some (natV (x k)) := by
  rw [Nat.mul_one, List.getElem?_map, tab_get _ h]; rfl
structure LvSt where
  s : Nat
  g : Nat
set_option maxRecDepth 20000 in
set_option maxHeartbeats 16000000 in
theorem level_x (es : List DE) (n steps : Nat) (u : Value) (W : PW) (hes : es.length ≤ 100000000) (hn : n ≤ 1000000) (hst : steps ≤ 1000000000000) (hE : ∀ e ∈ es, e.f < n ∧ 0 ≤ e.t ∧ e.t < n) (hu : RP deC W u es) :
    CallsX Tryz.prog 35 ⟨[u, .int .i64 n, .int .i64 steps]⟩ [] W fun v W' => RP natC W' v (tabL n (lev (es.map feD) steps)) := by
  have hmax : (100000000 : Nat) ≤ maxLen := by decide
  obtain ⟨A0, c0, rfl, _, _⟩ := hu.form
  obtain ⟨E, hEE⟩ : ∃ E, es.map feD = E := ⟨_, rfl⟩
  rw [hEE]
  refine pureX hmix Tryz.func35 r35 (by kernel_rfl) [.slice A0 es.length c0, .int .i64 n, .int .i64 steps] rfl ?_
  refine ⟨⟨by omega, by omega, by omega, by omega⟩, fun g0 => ?_⟩
  refine ⟨LvSt, fun t => [(7, .v (.slice (some ⟨t.g, 0, none⟩) n n)), (8, .v (.int .i64 t.s))], fun _ => [], fun t => [nowO t.g n (tabL n (lev E t.s))], fun t _ => t.s ≤ steps, fun t => steps - t.s, ⟨0, g0⟩,
    all_sl ⟨rfl, rfl, trivial⟩, rfl, ole_eq ?_, Nat.zero_le _, loopOK (fun _ => ⟨⟨trivial, rfl⟩, ⟨trivial, rfl⟩, trivial⟩) (fun _ => rfl) (fun _ => rfl), ?_⟩
  · have e : (List.replicate n [Value.int .i64 0]).flatten = (tabL n (lev E 0)).map natV := by rw [int_zeros, ← tab_zero]; rfl
    exact congrArg (fun cs => [(⟨.slice (some ⟨g0, 0, none⟩) n n, 3, 1, n, cs⟩ : Own)]) e
  rintro ⟨s, g⟩ W1 l1 hs fr
  dsimp only at hs
  refine ⟨rfl, ?_⟩
  apply br_split
  · intro hq
    have hq : (s : Int) < steps := hq
    have inc := (i64_in ((s : Int) + 1) ⟨by omega, by omega⟩).symm
    refine ⟨⟨by omega, by omega, by omega, by omega⟩, fun g2 => ?_⟩
    refine ⟨Nat, fun i => [(10, .v (.int .i64 i))], fun _ => [], fun i => [nowO g n (tabL n (lev E s)), nowO g2 n (tabL n fun k => askF (lev E s) k (E.take i))], fun i _ => i ≤ es.length, fun i => es.length - i, 0,
      all_sl ⟨rfl, trivial⟩, rfl, ole_eq ?_, Nat.zero_le _, loopOK (fun _ => ⟨⟨trivial, rfl⟩, trivial⟩) (fun _ => rfl) (fun _ => rfl), ?_⟩
    · have e : (List.replicate n [Value.int .i64 0]).flatten = (tabL n fun k => askF (lev E s) k (E.take 0)).map natV := by rw [int_zeros, ← tab_zero]; rfl
      exact congrArg (fun cs => [nowO g n (tabL n (lev E s)), (⟨.slice (some ⟨g2, 0, none⟩) n n, 3, 1, n, cs⟩ : Own)]) e
    rintro i W2 l2 hi fr2
    refine ⟨rfl, ?_⟩
    apply br_split
    · intro hqi
      have hqi : (i : Int) < es.length := hqi
      have inci := (i64_in ((i : Int) + 1) ⟨by omega, by omega⟩).symm
      obtain ⟨pe, rfl, e, hx, _, _, hr⟩ := RP.at (f := deC) (sz := 3) (fun _ => rfl) hu (l1.trans l2) (j := (i : Int)) ⟨by omega, by omega⟩
      have hx : es[i]? = some e := hx
      obtain ⟨hf, ht0, htn⟩ := hE e (List.mem_of_getElem? hx)
      have hEi : E[i]? = some (feD e) := by rw [← hEE, List.getElem?_map, hx]; rfl
      have hstep : ∀ k, askF (lev E s) k (E.take (i + 1)) = if (feD e).f = k then max (askF (lev E s) k (E.take i)) (lev E s (feD e).t + (feD e).w) else askF (lev E s) k (E.take i) := fun k => by
        rw [List.take_add_one, hEi, Option.toList_some, askF_snoc]
      obtain ⟨f, t, ab⟩ := e
      have hf : f < n := hf
      have ht0 : 0 ≤ t := ht0
      have htn : t < n := htn
      obtain ⟨tn, rfl⟩ : ∃ tn : Nat, t = tn := ⟨t.toNat, by omega⟩
      have htn : tn < n := by omega
      have hft : (feD ⟨f, (tn : Int), ab⟩).t = tn := Int.toNat_natCast tn
      have hff : (feD ⟨f, (tn : Int), ab⟩).f = f := rfl
      have hXs := lev_s E s tn
      have cX := natV_get (lev E s) htn
      have cY := natV_get (fun k => askF (lev E s) k (E.take i)) hf
      rw [hft, hff] at hstep
      obtain ⟨X, hX⟩ : ∃ X, lev E s tn = X := ⟨_, rfl⟩
      obtain ⟨Y, hY⟩ : ∃ Y, askF (lev E s) f (E.take i) = Y := ⟨_, rfl⟩
      rw [hX] at hXs cX hstep
      rw [hY] at cY
      refine ⟨⟨by omega, hqi⟩, pe, rfl, [.int .i64 f, .int .i64 tn, .bool ab], rfl, Rds.o hr, ?_⟩
      refine ⟨⟨by omega, by show (tn : Int) < n; omega⟩, _, rfl, natV X, .inr ⟨0, nowO g n _, ⟨g, 0, none⟩, n, n, tn * 1, rfl, rfl, rfl, cX⟩, ?_⟩
      cases ab
      case' false =>
        obtain ⟨Z, hZ, rfl⟩ : ∃ Z, X + (feD ⟨f, (tn : Int), false⟩).w = Z ∧ Z = X := ⟨_, rfl, rfl⟩
      case' true =>
        refine ⟨rfl, ((X + 1 : Nat) : Int), by rw [i64_in ((X : Int) + 1) ⟨by omega, by omega⟩]; rfl, ?_⟩
        obtain ⟨Z, hZ⟩ : ∃ Z, X + 1 = Z := ⟨_, rfl⟩
        rw [hZ]
        have hZ : X + (feD ⟨f, (tn : Int), true⟩).w = Z := hZ
      all_goals
        rw [hZ] at hstep
        refine ⟨⟨by omega, by show (f : Int) < n; omega⟩, _, rfl, natV Y, .inr ⟨1, nowO g2 n _, ⟨g2, 0, none⟩, n, n, f * 1, rfl, rfl, rfl, cY⟩, ?_⟩
        refine ⟨rfl, ?_⟩
        apply br_split
      case' false.h1 => intro hgt
      case' true.h1 => intro hgt
      case' false.h2 => intro hgt
      case' true.h2 => intro hgt
      all_goals skip
      case' false.h1 =>
        have hgt : (Z : Int) > Y := hgt
      case' true.h1 =>
        have hgt : (Z : Int) > Y := hgt
      case false.h2 =>
        have hgt : ¬ (Z : Int) > Y := hgt
        refine ⟨rfl, _, inci, i + 1, all_sl ⟨rfl, trivial⟩, rfl, ole_eq ?_, by omega, by dsimp only; omega⟩
        have e := tab_congr (n := n) (x := fun k => askF (lev E s) k (E.take i)) (y := fun k => askF (lev E s) k (E.take (i + 1))) fun k => by
          rw [hstep k]
          split
          · rename_i hk; subst hk; rw [hY]; omega
          · rfl
        exact congrArg (fun xs => [nowO g n (tabL n (lev E s)), nowO g2 n xs]) e.symm
      case true.h2 =>
        have hgt : ¬ (Z : Int) > Y := hgt
        refine ⟨rfl, _, inci, i + 1, all_sl ⟨rfl, trivial⟩, rfl, ole_eq ?_, by omega, by dsimp only; omega⟩
        have e := tab_congr (n := n) (x := fun k => askF (lev E s) k (E.take i)) (y := fun k => askF (lev E s) k (E.take (i + 1))) fun k => by
          rw [hstep k]
          split
          · rename_i hk; subst hk; rw [hY]; omega
          · rfl
        exact congrArg (fun xs => [nowO g n (tabL n (lev E s)), nowO g2 n xs]) e.symm
      all_goals
        refine ⟨⟨by omega, by show (f : Int) < n; omega⟩, _, rfl, ?_⟩
        refine ⟨1, nowO g2 n (tabL n fun k => askF (lev E s) k (E.take i)), ⟨g2, 0, none⟩, n, n, f * 1, rfl, rfl, rfl, rfl, (fun u hu => by rw [List.mem_singleton.1 hu]; rfl), by rw [Nat.mul_one]; show f + 1 ≤ ((tabL n fun k => askF (lev E s) k (E.take i)).map natV).length; rw [List.length_map, tab_len]; omega, rfl, ?_⟩
        refine ⟨rfl, _, inci, i + 1, all_sl ⟨rfl, trivial⟩, rfl, ole_eq ?_, by omega, by dsimp only; omega⟩
        have e := tab_set (n := n) (f := f) (v := Z) (x := fun k => askF (lev E s) k (E.take i)) (y := fun k => askF (lev E s) k (E.take (i + 1))) fun k => by
          rw [hstep k]
          by_cases hk : f = k
          · subst hk; rw [if_pos rfl, if_pos rfl, hY]; omega
          · rw [if_neg hk, if_neg fun e => hk e.symm]
        have e2 := set_map natV Z (l := tabL n fun k => askF (lev E s) k (E.take i)) (j := f) (by rw [tab_len]; exact hf)
        rw [← e] at e2
        have e3 : ((tabL n fun k => askF (lev E s) k (E.take i)).map natV).take (f * 1) ++ [natV Z] ++ ((tabL n fun k => askF (lev E s) k (E.take i)).map natV).drop (f * 1 + 1) = (tabL n fun k => askF (lev E s) k (E.take (i + 1))).map natV := by rw [Nat.mul_one]; exact e2
        exact congrArg (fun cs => [nowO g n (tabL n (lev E s)), (⟨.slice (some ⟨g2, 0, none⟩) n n, 3, 1, n, cs⟩ : Own)]) e3
    · intro hqi
      have hqi : ¬ (i : Int) < es.length := hqi
      have hEl : E.length = es.length := by rw [← hEE, List.length_map]
      have hall : E.take i = E := List.take_of_length_le (by omega)
      refine ⟨rfl, _, inc, ⟨s + 1, g2⟩, all_sl ⟨rfl, rfl, trivial⟩, rfl, ?_, by dsimp only; omega, by dsimp only; omega⟩
      show OLe [nowO g n (tabL n (lev E s)), nowO g2 n (tabL n fun k => askF (lev E s) k (E.take i))] [nowO g2 n (tabL n (lev E (s + 1)))]
      rw [hall]
      exact List.filter_sublist.trans (List.sublist_cons_self (nowO g n (tabL n (lev E s))) [nowO g2 n (tabL n (lev E (s + 1)))])
  · intro hq
    have hq : ¬ (s : Int) < steps := hq
    obtain rfl : s = steps := by omega
    refine RetVC.freeze (i := 0) (fun _ hb => hb) rfl fun W3 l3 hfr => ?_
    refine ret_plain rfl fun W4 l4 => ?_
    have h := SlRead.mono hfr l4
    show SlRead W4 (.slice (some ⟨g, 0, none⟩) n n) (tabL n (lev E s)).length ((tabL n (lev E s)).map natC).flatten
    rw [flat_nat, tab_len]
    exact h
end Go.Proofs.YtcgbcbdgjhnlaaaGreat
