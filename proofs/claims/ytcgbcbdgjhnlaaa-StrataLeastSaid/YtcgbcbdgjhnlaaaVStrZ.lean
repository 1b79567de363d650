/- Layer 18 (strata), plain: the numbers that the program settles are the least, and are what the document reckons. No program here. -/
import Derived.Test.YtcgbcbdgjhnlaaaVStrY
import Derived.Test.YtcgbcbdgjhnlaaaVStrJ
namespace Go.Proofs.Ytcgbcbdgjhnlaaa

def toF (c : ConfS) (e : EdgeS) : FE := ⟨ixS c e.fs, ixS c e.ts, e.ab⟩
def feD (e : DE) : FE := ⟨e.f, e.t.toNat, e.ab⟩
theorem feD_toD (c : ConfS) (e : EdgeS) : feD (toD c e) = toF c e := by
  show (⟨ixS c e.fs, ((ixS c e.ts : Nat) : Int).toNat, e.ab⟩ : FE) = _
  rw [Int.toNat_natCast]; rfl
def fl (n : Num) (k : Nat) : Nat := n.flatten.getD k 0
theorem allP_len : ∀ ss : List SpaceS, (allP ss).length = (ss.map fun s => s.rels.length).sum
  | [] => rfl
  | s :: ss => by rw [allP_cons, List.length_append, List.length_map, allP_len ss, List.map_cons, List.sum_cons]
theorem off_len {c : ConfS} {n : Num} (h : ShN c n) (i : Nat) : (allP (c.spaces.take i)).length = ((n.take i).flatten).length := by
  unfold ShN at h
  rw [allP_len, List.length_flatten, List.map_take, List.map_take, h]
theorem row_get {c : ConfS} {n : Num} (h : ShN c n) {s : Spot} {r : RelS} (hs : relAt c s = some r) : ∃ row, n[s.1]? = some row ∧ s.2 < row.length := by
  obtain ⟨sp, h1, h2, _⟩ := relAt_get hs
  have hi : s.1 < n.length := by rw [shN_len h]; exact (List.getElem?_eq_some_iff.1 h1).1
  have hrow : n[s.1]? = some n[s.1] := List.getElem?_eq_getElem hi
  refine ⟨_, hrow, ?_⟩
  have hl : n[s.1].length = sp.rels.length := by
    have e : (n.map List.length)[s.1]? = (c.spaces.map fun s => s.rels.length)[s.1]? := by rw [h]
    rw [List.getElem?_map, List.getElem?_map, hrow, h1] at e
    exact Option.some.inj e
  rw [hl]; exact (List.getElem?_eq_some_iff.1 h2).1
theorem flat_split {n : Num} {i : Nat} {row : List Nat} (h : n[i]? = some row) : n.flatten = (n.take i).flatten ++ (row ++ (n.drop (i + 1)).flatten) := by
  conv => lhs; rw [split_at h]
  rw [List.flatten_append, List.flatten_cons]
theorem fl_get {c : ConfS} {n : Num} (h : ShN c n) {s : Spot} {r : RelS} (hs : relAt c s = some r) : fl n (ixS c s) = getN n s := by
  obtain ⟨row, h1, h2⟩ := row_get h hs
  unfold fl getN ixS ixP
  rw [off_len h, flat_split h1, h1, List.getD_eq_getElem?_getD, List.getElem?_append_right (by omega), Nat.add_sub_cancel_left, List.getElem?_append_left h2]; rfl
theorem fl_set {c : ConfS} {n : Num} (h : ShN c n) {s : Spot} {r : RelS} (hs : relAt c s = some r) (x : Nat) : fl (setN n s x) = fun k => if k = ixS c s then x else fl n k := by
  obtain ⟨row, h1, h2⟩ := row_get h hs
  have hi := (List.getElem?_eq_some_iff.1 h1).1
  have e : (setN n s x).flatten = n.flatten.set (ixS c s) x := by
    unfold setN ixS ixP
    rw [h1, Option.getD_some, List.set_eq_take_append_cons_drop, if_pos hi, List.flatten_append, List.flatten_cons, off_len h, flat_split h1, List.set_append_right _ _ (by omega), Nat.add_sub_cancel_left, List.set_append_left _ _ h2]
  have hlt : ixS c s < n.flatten.length := by
    unfold ixS ixP
    rw [off_len h, flat_split h1, List.length_append, List.length_append]; omega
  funext k
  unfold fl
  rw [e, List.getD_eq_getElem?_getD, List.getElem?_set]
  by_cases hk : k = ixS c s
  · rw [if_pos hk.symm, if_pos hlt, if_pos hk]; rfl
  · rw [if_neg (fun e => hk e.symm), if_neg hk, List.getD_eq_getElem?_getD]
theorem fl_zero (c : ConfS) (k : Nat) : fl (zeroN c) k = 0 := by
  unfold fl
  rw [List.getD_eq_getElem?_getD]
  cases h : (zeroN c).flatten[k]? with
  | none => rfl
  | some x =>
    obtain ⟨r, hr, hx⟩ := List.mem_flatten.1 (List.mem_of_getElem? h)
    exact Nat.le_zero.1 (bndN_zero c r hr x hx)
theorem rise_fl {c : ConfS} {n : Num} (h : ShN c n) {e : EdgeS} (hf : ∃ r, relAt c e.fs = some r) (ht : ∃ r, relAt c e.ts = some r) :
    ShN c (riseN n e).1 ∧ fl (riseN n e).1 = riseF (fl n) (toF c e) ∧ ((riseN n e).2 = false → (riseN n e).1 = n ∧ fl n (toF c e).t + (toF c e).w ≤ fl n (toF c e).f) ∧ (fl n (toF c e).t + (toF c e).w ≤ fl n (toF c e).f → riseN n e = (n, false)) := by
  obtain ⟨rf, hf⟩ := hf
  obtain ⟨rt, ht⟩ := ht
  have g1 : fl n (toF c e).f = getN n e.fs := fl_get h hf
  have g2 : fl n (toF c e).t + (toF c e).w = leastN n e := by
    show fl n (ixS c e.ts) + (toF c e).w = _
    rw [fl_get h ht]; rfl
  rw [g1, g2]
  unfold riseN riseF
  rw [g1, g2]
  by_cases hq : leastN n e ≤ getN n e.fs
  · rw [if_pos hq, if_pos hq]
    exact ⟨h, rfl, fun _ => ⟨rfl, hq⟩, fun _ => rfl⟩
  · rw [if_neg hq, if_neg hq]
    exact ⟨setN_sh h _ _, fl_set h hf _, fun h => (Bool.noConfusion h), fun h => absurd h hq⟩
theorem roundF_snoc (e : FE) : ∀ (l : List FE) (x : Nat → Nat), roundF x (l ++ [e]) = riseF (roundF x l) e
  | [], _ => rfl
  | a :: l, x => roundF_snoc e l (riseF x a)
theorem round_fl {c : ConfS} {n : Num} (h : ShN c n) {l : List EdgeS} (hE : ∀ e ∈ l, (∃ r, relAt c e.fs = some r) ∧ ∃ r, relAt c e.ts = some r) :
    ∀ i : Nat, i ≤ l.length → ShN c (roundUp l n i).1 ∧ fl (roundUp l n i).1 = roundF (fl n) ((l.take i).map (toF c)) ∧ ((roundUp l n i).2 = false → (roundUp l n i).1 = n ∧ quietF (fl n) ((l.take i).map (toF c))) ∧ (quietF (fl n) ((l.take i).map (toF c)) → roundUp l n i = (n, false))
  | 0, _ => ⟨h, rfl, fun _ => ⟨rfl, fun e he => by cases he⟩, fun _ => rfl⟩
  | i + 1, hi => by
    have hx : l[i]? = some l[i] := List.getElem?_eq_getElem hi
    obtain ⟨h1, h2, h3, h4⟩ := round_fl h hE i (by omega)
    obtain ⟨hf, ht⟩ := hE l[i] (List.getElem_mem hi)
    obtain ⟨r1, r2, r3, r4⟩ := rise_fl h1 hf ht
    have em : (l.take (i + 1)).map (toF c) = (l.take i).map (toF c) ++ [toF c l[i]] := by
      rw [List.take_add_one, hx, Option.toList_some, List.map_append, List.map_singleton]
    rw [round_succ hx, em, roundF_snoc, ← h2]
    refine ⟨r1, r2, fun hb => ?_, fun hq => ?_⟩
    · obtain ⟨b1, b2⟩ := Bool.or_eq_false_iff.1 hb
      obtain ⟨k1, k2⟩ := h3 b2
      obtain ⟨k3, k4⟩ := r3 b1
      refine ⟨k3.trans k1, fun e he => ?_⟩
      rcases List.mem_append.1 he with he | he
      · exact k2 e he
      · rw [List.mem_singleton.1 he]
        rw [k1] at k4; exact k4
    · have k1 := h4 fun e he => hq e (List.mem_append_left _ he)
      have k2 := hq (toF c l[i]) (List.mem_append_right _ (List.mem_singleton.2 rfl))
      rw [k1] at r4 ⊢
      rw [r4 k2]; rfl
theorem settle_some {c : ConfS} {l : List EdgeS} (hE : ∀ e ∈ l, (∃ r, relAt c e.fs = some r) ∧ ∃ r, relAt c e.ts = some r) :
    ∀ (f : Nat) (n n' : Num) (N : Nat), ShN c n → (∀ k, fl n k ≤ lev (l.map (toF c)) N k) → settleGo l f n = some n' → ShN c n' ∧ ClosedF (l.map (toF c)) (fl n') ∧ ∃ N', ∀ k, fl n' k ≤ lev (l.map (toF c)) N' k
  | 0, _, _, _, _, _, h => by cases h
  | f + 1, n, n', N, hn, hN, h => by
    obtain ⟨h1, h2, h3, _⟩ := round_fl hn hE l.length (Nat.le_refl _)
    rw [List.take_length] at h2 h3
    simp only [settleGo] at h
    split at h
    · obtain ⟨N', hN'⟩ := roundF_lev (l.map (toF c)) (fl n) N (fun e he => he) hN
      exact settle_some hE f _ n' N' h1 (fun k => by rw [h2]; exact hN' k) h
    · rename_i hb
      obtain ⟨k1, k2⟩ := h3 (by simpa using hb)
      obtain rfl := Option.some.inj h
      rw [k1]
      exact ⟨hn, k2, N, hN⟩
theorem settle_none {c : ConfS} {l : List EdgeS} (hE : ∀ e ∈ l, (∃ r, relAt c e.fs = some r) ∧ ∃ r, relAt c e.ts = some r) {m : Nat → Nat} (hm : Least (l.map (toF c)) m) {P : Nat} (hw : Within (l.map (toF c)) P) :
    ∀ (f : Nat) (n : Num) (s : Nat), ShN c n → (∀ k, lev (l.map (toF c)) s k ≤ fl n k) → (∀ k, fl n k ≤ m k) → P ≤ s + f → 0 < f → settleGo l f n = none → False
  | f + 1, n, s, hn, hs, hnm, hP, _, h => by
    obtain ⟨h1, h2, h3, h4⟩ := round_fl hn hE l.length (Nat.le_refl _)
    rw [List.take_length] at h2 h3 h4
    simp only [settleGo] at h
    rcases Nat.lt_or_ge (s + 1) P with hlt | hge
    · split at h
      · refine settle_none hE hm hw f _ (s + 1) h1 (fun k => ?_) (fun k => ?_) (by omega) (by omega) h
        · rw [h2]; exact roundF_next hs k
        · rw [h2]; exact roundF_le hm.closed _ _ (fun e he => he) hnm k
      · cases h
    · have hq : quietF (fl n) (l.map (toF c)) := fun e he => by
        have e1 := hm.soon hw hge e.t
        have e2 := hm.soon hw hge e.f
        have e3 := hs e.t
        have e4 := hs e.f
        have e5 := hnm e.t
        have e6 := hnm e.f
        have e7 := hm.closed e he
        omega
      rw [h4 hq] at h
      cases h
theorem within_of {c : ConfS} {l : List EdgeS} (hE : ∀ e ∈ l, (∃ r, relAt c e.fs = some r) ∧ ∃ r, relAt c e.ts = some r) : Within (l.map (toF c)) (allD c).length := by
  intro e he
  obtain ⟨q, hq, rfl⟩ := List.mem_map.1 he
  obtain ⟨⟨r1, h1⟩, r2, h2⟩ := hE q hq
  exact ⟨ix_lt h1, ix_lt h2⟩
theorem settle_least {c : ConfS} {l : List EdgeS} (hE : ∀ e ∈ l, (∃ r, relAt c e.fs = some r) ∧ ∃ r, relAt c e.ts = some r) {n' : Num} (h : settleS c l = some n') : ShN c n' ∧ Least (l.map (toF c)) (fl n') := by
  obtain ⟨h1, h2, N, h3⟩ := settle_some hE _ (zeroN c) n' 0 (shN_zero c) (fun k => by rw [fl_zero]; exact Nat.zero_le _) h
  exact ⟨h1, fun s k => lev_closed h2 s k, fun k => ⟨N, h3 k⟩⟩
theorem settle_no {c : ConfS} {l : List EdgeS} (hE : ∀ e ∈ l, (∃ r, relAt c e.fs = some r) ∧ ∃ r, relAt c e.ts = some r) (h : settleS c l = none) (m : Nat → Nat) : ¬ Least (l.map (toF c)) m := fun hm =>
  settle_none hE hm (within_of hE) ((keysS c).length + 1) (zeroN c) 0 (shN_zero c) (fun _ => Nat.zero_le _) (fun k => by rw [fl_zero]; exact Nat.zero_le _) (by rw [keys_len]; omega) (by omega) h

def rowL (c : ConfS) (i : Nat) : Nat := ((c.spaces[i]?).map fun s => s.rels.length).getD 0
def rowF (c : ConfS) (x : Nat → Nat) (i : Nat) : List Nat := (List.range (rowL c i)).map fun k => x ((allP (c.spaces.take i)).length + k)
def rowsF (c : ConfS) (x : Nat → Nat) : Num := (List.range c.spaces.length).map (rowF c x)
theorem rows_fl {c : ConfS} {n : Num} (h : ShN c n) : rowsF c (fl n) = n := by
  apply List.ext_getElem?
  intro i
  unfold rowsF
  rw [List.getElem?_map]
  rcases Nat.lt_or_ge i c.spaces.length with hi | hi
  · have hi2 : i < n.length := by rw [shN_len h]; exact hi
    have hrow : n[i]? = some n[i] := List.getElem?_eq_getElem hi2
    have hsp : c.spaces[i]? = some c.spaces[i] := List.getElem?_eq_getElem hi
    have hl : n[i].length = c.spaces[i].rels.length := by
      have e : (n.map List.length)[i]? = (c.spaces.map fun s => s.rels.length)[i]? := by rw [h]
      rw [List.getElem?_map, List.getElem?_map, hrow, hsp] at e
      exact Option.some.inj e
    rw [List.getElem?_range hi, hrow]
    show some (rowF c (fl n) i) = some n[i]
    congr 1
    have hrl : rowL c i = c.spaces[i].rels.length := by unfold rowL; rw [hsp]; rfl
    apply List.ext_getElem?
    intro k
    unfold rowF
    rw [List.getElem?_map, hrl]
    rcases Nat.lt_or_ge k c.spaces[i].rels.length with hk | hk
    · rw [List.getElem?_range hk]
      show some (fl n (ixS c (i, k))) = _
      have hr : relAt c (i, k) = some c.spaces[i].rels[k] := by unfold relAt; rw [hsp]; exact List.getElem?_eq_getElem hk
      rw [fl_get h hr]
      unfold getN
      show some ((((n[i]?).getD [])[k]?).getD 0) = _
      rw [hrow, Option.getD_some, List.getElem?_eq_getElem (by omega)]; rfl
    · rw [List.getElem?_eq_none (by rw [List.length_range]; exact hk), List.getElem?_eq_none (by omega)]; rfl
  · rw [List.getElem?_eq_none (by rw [List.length_range]; exact hi), List.getElem?_eq_none (by rw [shN_len h]; exact hi)]; rfl
def okL (E : List FE) (N : Nat) (i : Nat) : Bool := decide (lev E (N + 1) i = lev E ((N + 1) * (N + 1)) i) && decide (lev E (N + 1) i < N)
def numbersD (T : List NodeS → Tr) (c : ConfS) : Num × Int :=
  if rightN c = false then ([], 4) else if onceS c = false then ([], 10) else if (edgesD T c).2 = false then ([], 14) else
    if (List.range (allD c).length).all (okL ((edgesD T c).1.map feD) (allD c).length) = false then ([], 15) else (rowsF c (lev ((edgesD T c).1.map feD) ((allD c).length + 1)), 0)
theorem map_feD (c : ConfS) (es : List EdgeS) : (es.map (toD c)).map feD = es.map (toF c) := by
  rw [List.map_map]
  exact List.map_congr_left fun e _ => feD_toD c e
theorem numbers_is {T : List NodeS → Tr} (hT : TreeF T) (c : ConfS) : numbersD T c = numbersS c ∧ ((numbersS c).2 = 0 → (edgesD T c).2 = true ∧ ShN c (numbersS c).1 ∧ Least ((edgesD T c).1.map feD) (fl (numbersS c).1) ∧ Within ((edgesD T c).1.map feD) (allD c).length) ∧ (¬ (numbersS c).2 = 0 → (numbersS c).1 = []) := by
  unfold numbersD numbersS
  cases hr : rightN c with
  | false => exact ⟨rfl, fun h => absurd (show (4 : Int) = 0 from h) (by decide), fun _ => rfl⟩
  | true =>
  cases ho : onceS c with
  | false => exact ⟨rfl, fun h => absurd (show (10 : Int) = 0 from h) (by decide), fun _ => rfl⟩
  | true =>
  simp only [Bool.true_eq_false, if_false]
  have hE := fun l h => allE_has (c := c) (l := l) h
  rcases all_sim hT (right_good hr) with ⟨es, h1, h2, h3⟩ | ⟨h1, h2⟩
  · have hE := hE es h1
    rw [h1, h2]
    simp only [Bool.true_eq_false, if_false]
    rw [← h3, map_feD]
    have hw := within_of hE
    cases hs : settleS c es with
    | some n =>
      obtain ⟨k1, k2⟩ := settle_least hE hs
      have e1 : lev (es.map (toF c)) ((allD c).length + 1) = fl n := funext fun k => k2.soon hw (by omega) k
      have e2 : lev (es.map (toF c)) (((allD c).length + 1) * ((allD c).length + 1)) = fl n := funext fun k => k2.soon hw (Nat.le_trans (Nat.le_succ (allD c).length) (Nat.le_trans (Nat.le_mul_of_pos_right ((allD c).length + 1) (Nat.succ_pos (allD c).length)) (Nat.le_succ _))) k
      have hall : (List.range (allD c).length).all (okL (es.map (toF c)) (allD c).length) = true := by
        rw [List.all_eq_true]
        intro i hi
        unfold okL
        rw [e1, e2, decide_eq_true rfl, decide_eq_true (k2.small hw (List.mem_range.1 hi))]; rfl
      rw [hall, if_neg (by decide), e1, rows_fl k1]
      exact ⟨rfl, fun _ => ⟨by first | rfl | trivial, k1, k2, hw⟩, fun h => absurd rfl h⟩
    | none =>
      have hno := settle_no hE hs
      have hall : (List.range (allD c).length).all (okL (es.map (toF c)) (allD c).length) = false := by
        rw [← Bool.not_eq_true]
        intro hall
        rw [List.all_eq_true] at hall
        refine hno _ (Least.of_fix (E := es.map (toF c)) (s := (allD c).length + 1) fun k => ?_)
        rcases Nat.lt_or_ge k (allD c).length with hk | hk
        · have h4 := hall k (List.mem_range.2 hk)
          unfold okL at h4
          rw [Bool.and_eq_true, decide_eq_true_eq] at h4
          refine Nat.le_antisymm ?_ (lev_step _ _ _)
          rw [h4.1]
          refine lev_le _ ?_ k
          have : (allD c).length + 1 + 1 ≤ ((allD c).length + 1) * 2 := by omega
          exact Nat.le_trans this (Nat.mul_le_mul_left _ (by omega))
        · have h0 : ∀ s, lev (es.map (toF c)) s k = 0 := fun s => by
            cases s with
            | zero => rfl
            | succ s => exact Nat.le_zero.1 (askF_le fun e he hf => by have := (hw e he).1; omega)
          rw [h0, h0]
      rw [hall, if_pos rfl]
      exact ⟨rfl, fun h => absurd (show (15 : Int) = 0 from h) (by decide), fun _ => rfl⟩
  · rw [h1, h2]
    exact ⟨rfl, fun h => absurd (show (14 : Int) = 0 from h) (by decide), fun _ => rfl⟩
end Go.Proofs.Ytcgbcbdgjhnlaaa

