/- Layer 17 (show): the program's text of an expression, walked. -/
import Derived.Test.YtcgbcbdgjhnlaaaShoA
import Derived.Test.YtcgbcbdgjhnlaaaCodeW
namespace Go.Proofs.Ytcgbcbdgjhnlaaa
open Go.RowKit

theorem bind_x (k : Int) (W : PW) : CallsX Try.prog 148 ⟨[.int .i64 k]⟩ [] W fun v _ => v = .int .i64 (bindK k) := by
  refine pureX hmix Try.func148 r148 (by kernel_rfl) [.int .i64 k] rfl ?_
  unfold bindK
  refine ⟨rfl, br_split (fun h4 => ?_) (fun h4 => ?_)⟩
  · have h4 : k = 4 := h4
    refine br_yes h4 ?_
    exact ret_plain rfl fun _ _ => by rw [if_pos (.inl h4)]
  have h4 : ¬ k = 4 := h4
  refine ⟨rfl, ?_⟩
  apply br_split
  · intro h6
    have h6 : k = 6 := h6
    exact ret_plain rfl fun _ _ => by rw [if_pos (.inr h6)]
  intro h6
  have h6 : ¬ k = 6 := h6
  have hn : ¬ (k = 4 ∨ k = 6) := fun h => h.elim h4 h6
  refine ⟨rfl, br_split (fun h5 => ?_) (fun h5 => ?_)⟩
  · have h5 : k = 5 := h5
    exact ret_plain rfl fun _ _ => by rw [if_neg hn, if_pos h5]
  · have h5 : ¬ k = 5 := h5
    exact ret_plain rfl fun _ _ => by rw [if_neg hn, if_neg h5]
theorem sign_x (k : Int) (W : PW) : CallsX Try.prog 150 ⟨[.int .i64 k]⟩ [] W fun v _ => v = strV (signK k) := by
  refine pureX hmix Try.func150 r150 (by kernel_rfl) [.int .i64 k] rfl ?_
  unfold signK
  refine ⟨rfl, br_split (fun h4 => ?_) (fun h4 => ?_)⟩
  · have h4 : k = 4 := h4
    exact ret_plain rfl fun _ _ => by rw [if_pos h4]; rfl
  have h4 : ¬ k = 4 := h4
  refine ⟨rfl, br_split (fun h6 => ?_) (fun h6 => ?_)⟩
  · have h6 : k = 6 := h6
    exact ret_plain rfl fun _ _ => by rw [if_neg h4, if_pos h6]; rfl
  · have h6 : ¬ k = 6 := h6
    exact ret_plain rfl fun _ _ => by rw [if_neg h4, if_neg h6]; rfl
/-- A tree's nodes among others, behind so many. -/
def At (l : List NodeS) (m : Nat) (t : Tr) : Prop := ∃ pre post, l = pre ++ layN m t ++ post ∧ pre.length = m
theorem At.node {l : List NodeS} {m : Nat} {t : Tr} (h : At l m t) {i : Nat} (hi : i < t.size) : l[m + i]? = (layN m t)[i]? := by
  obtain ⟨pre, post, rfl, rfl⟩ := h
  rw [List.append_assoc, List.getElem?_append_right (by omega), Nat.add_sub_cancel_left, List.getElem?_append_left (by rw [layN_len]; exact hi)]
theorem At.left {l : List NodeS} {m k : Nat} {a b : Tr} (h : At l m (.op k a b)) : At l m a := by
  obtain ⟨pre, post, rfl, rfl⟩ := h
  exact ⟨pre, layN (pre.length + a.size) b ++ [⟨k, [], [], ((pre.length + a.size : Nat) : Int) - 1, ((pre.length + a.size + b.size : Nat) : Int) - 1⟩] ++ post, by simp only [layN, List.append_assoc], rfl⟩
theorem At.right {l : List NodeS} {m k : Nat} {a b : Tr} (h : At l m (.op k a b)) : At l (m + a.size) b := by
  obtain ⟨pre, post, rfl, rfl⟩ := h
  exact ⟨pre ++ layN pre.length a, [⟨k, [], [], ((pre.length + a.size : Nat) : Int) - 1, ((pre.length + a.size + b.size : Nat) : Int) - 1⟩] ++ post, by simp only [layN, List.append_assoc], by rw [List.length_append, layN_len]⟩
theorem At.len {l : List NodeS} {m : Nat} {t : Tr} (h : At l m t) : m + t.size ≤ l.length := by
  obtain ⟨pre, post, rfl, rfl⟩ := h
  simp only [List.length_append, layN_len]; omega
def rootN (m : Nat) : Tr → NodeS
  | .this => ⟨1, [], [], 0, 0⟩
  | .rel w => ⟨2, w, [], 0, 0⟩
  | .arrow w v => ⟨3, w, v, 0, 0⟩
  | .op k a b => ⟨k, [], [], ((m + a.size : Nat) : Int) - 1, ((m + a.size + b.size : Nat) : Int) - 1⟩
theorem rootN_kind (m : Nat) (t : Tr) : (rootN m t).kind = t.kind := by cases t <;> rfl
theorem At.root {l : List NodeS} {m : Nat} {t : Tr} (h : At l m t) : l[m + t.size - 1]? = some (rootN m t) := by
  have hp := t.size_pos
  rw [show m + t.size - 1 = m + (t.size - 1) by omega, h.node (by omega)]
  cases t with
  | this => rfl
  | rel w => rfl
  | arrow w v => rfl
  | op k a b =>
    simp only [layN, Tr.size, Nat.add_sub_cancel]
    rw [List.getElem?_append_right (by rw [List.length_append, layN_len, layN_len]; exact Nat.le_refl _), List.length_append, layN_len, layN_len, Nat.sub_self]; rfl
theorem last_root (m : Nat) (t : Tr) : (layN m t)[t.size - 1]? = some (rootN m t) := by
  cases t with
  | this => rfl
  | rel w => rfl
  | arrow w v => rfl
  | op k a b =>
    simp only [layN, Tr.size, Nat.add_sub_cancel]
    rw [List.getElem?_append_right (by rw [List.length_append, layN_len, layN_len]; exact Nat.le_refl _), List.length_append, layN_len, layN_len, Nat.sub_self]; rfl
/-- Nodes are the nodes of one tree at most. -/
theorem lay_inj' : ∀ {t t' : Tr} {m : Nat}, t.ok → t'.ok → layN m t = layN m t' → t = t'
  | t, t', m, h, h', e => by
    have hs : t.size = t'.size := by rw [← layN_len t m, ← layN_len t' m, e]
    have hr : rootN m t = rootN m t' := by
      have a := last_root m t
      have b := last_root m t'
      rw [e, hs, b] at a
      exact (Option.some.inj a).symm
    cases t with
    | this =>
      cases t' with
      | this => rfl
      | rel w => simp [rootN] at hr
      | arrow w v => simp [rootN] at hr
      | op k a b => obtain ⟨hk, _⟩ := h'; simp only [rootN, NodeS.mk.injEq] at hr; omega
    | rel w =>
      cases t' with
      | this => simp [rootN] at hr
      | rel w' => simp [rootN] at hr; rw [hr]
      | arrow w v => simp [rootN] at hr
      | op k a b => obtain ⟨hk, _⟩ := h'; simp only [rootN, NodeS.mk.injEq] at hr; omega
    | arrow w v =>
      cases t' with
      | this => simp [rootN] at hr
      | rel w' => simp [rootN] at hr
      | arrow w' v' => simp [rootN] at hr; rw [hr.1, hr.2]
      | op k a b => obtain ⟨hk, _⟩ := h'; simp only [rootN, NodeS.mk.injEq] at hr; omega
    | op k a b =>
      cases t' with
      | this => obtain ⟨hk, _⟩ := h; simp only [rootN, NodeS.mk.injEq] at hr; omega
      | rel w' => obtain ⟨hk, _⟩ := h; simp only [rootN, NodeS.mk.injEq] at hr; omega
      | arrow w' v' => obtain ⟨hk, _⟩ := h; simp only [rootN, NodeS.mk.injEq] at hr; omega
      | op k' a' b' =>
        simp only [rootN, NodeS.mk.injEq] at hr
        have ea : a.size = a'.size := by omega
        have eb : b.size = b'.size := by omega
        have ek : k = k' := by omega
        simp only [layN] at e
        have e1 := List.append_inj_left' e rfl
        have e2 := List.append_inj_left e1 (by rw [layN_len, layN_len, ea])
        have e3 := List.append_inj_right e1 (by rw [layN_len, layN_len, ea])
        rw [← ea] at e3
        rw [lay_inj' h.2.1 h'.2.1 e2, lay_inj' h.2.2 h'.2.2 e3, ek]
theorem lay_inj {t t' : Tr} (h : t.ok) (h' : t'.ok) (e : layN 0 t = layN 0 t') : t = t' := lay_inj' h h' e
theorem cat_le4 {a b : List UInt8} (n : Nat) (h : a.length + b.length ≤ n) (hn : n ≤ 1000000000) : (a.length : Int) + b.length ≤ 9223372036854775807 := by omega
def TextC (t : Tr) : Prop := ∀ (l : List NodeS) (m : Nat) (u : Value) (W : PW), At l m t → l.length ≤ 100000 → RP nodeC W u l → CallsX Try.prog 109 ⟨[u, .int .i64 ((m + t.size : Nat) - 1 : Int)]⟩ [] W fun v _ => v = strV (txtT t)
theorem operand_x {t : Tr} (ht : t.ok) (hsz : t.size ≤ 100000) (h : TextC t) (least : Int) (l : List NodeS) (m : Nat) (u : Value) (W : PW) (ha : At l m t) (hl : l.length ≤ 100000) (hr : RP nodeC W u l) :
    CallsX Try.prog 149 ⟨[u, .int .i64 ((m + t.size : Nat) - 1 : Int), .int .i64 least]⟩ [] W fun v _ => v = strV (opd least t (txtT t)) := by
  have hroot := ha.root
  have hlen := ha.len
  have hp := t.size_pos
  have htl := txtT_len t ht
  obtain ⟨at_, hat⟩ : ∃ a : Nat, m + t.size = a + 1 := ⟨m + t.size - 1, by omega⟩
  have h1 : ((m + t.size : Nat) - 1 : Int) = (at_ : Int) := by rw [hat]; omega
  have hT := fun (W' : PW) (lw : W.Le W') => h l m u W' ha hl (hr.mono lw)
  rw [h1] at hT ⊢
  rw [show m + t.size - 1 = at_ by omega] at hroot
  obtain ⟨A, c, rfl, _, _⟩ := hr.form
  refine pureX hmix Try.func149 r149 (by kernel_rfl) [.slice A l.length c, .int .i64 at_, .int .i64 least] rfl ?_
  refine call_v rfl (fun W' lw => hT W' lw) (fun W3 v W4 l3 l4 hv => ?_)
  obtain ⟨s, hs, rfl⟩ : ∃ s, txtT t = s ∧ v = strV s := ⟨_, rfl, hv⟩
  rw [hs] at htl
  obtain ⟨pc, rfl, n, hn, hall, _, _⟩ := hr.at (sz := 5) (fun _ => rfl) (l3.trans l4) (j := at_) ⟨by omega, by omega⟩
  have hn : l[at_]? = some n := hn
  rw [hroot] at hn
  obtain rfl := Option.some.inj hn
  refine ⟨⟨by omega, by omega⟩, pc, rfl, .int .i64 (rootN m t).kind, (hall 0 _ rfl).o, ?_⟩
  refine call_v rfl (fun W' _ => bind_x (rootN m t).kind W') (fun W5 v W6 l5 l6 hv => ?_)
  rw [rootN_kind] at hv
  obtain ⟨b, hb, rfl⟩ : ∃ b, bindK t.kind = b ∧ v = .int .i64 b := ⟨_, rfl, hv⟩
  refine ⟨rfl, br_split (fun hlt => ?_) (fun hlt => ?_)⟩
  · have hlt : b < least := hlt
    refine ⟨cat_le4 10000000 (by show 1 + s.length ≤ _; omega) (by decide), cat_le4 10000000 (by show ([40] ++ s).length + 1 ≤ _; simp only [List.length_append, List.length_cons, List.length_nil]; omega) (by decide), ret_plain rfl fun _ _ => ?_⟩
    unfold opd
    rw [hb, if_pos hlt, hs]; rfl
  · have hlt : ¬ b < least := hlt
    refine ret_plain rfl fun _ _ => ?_
    unfold opd
    rw [hb, if_neg hlt, hs]
set_option maxHeartbeats 2000000 in
theorem showtext_x : ∀ t : Tr, t.ok → TextC t := by
  intro t
  induction t with
  | op k a b iha ihb =>
    intro ht l m u W hat hl hr
    obtain ⟨hk, hoa, hob⟩ := ht
    have hroot := hat.root
    have hlen := hat.len
    have hla := hat.left
    have hrb := hat.right
    have hzl : a.size + b.size + 1 ≤ 100000 := by
      have : m + (a.size + b.size + 1) ≤ l.length := hlen
      omega
    have h1 : ((m + (Tr.op k a b).size : Nat) - 1 : Int) = ((m + a.size + b.size : Nat) : Int) := by show ((m + (a.size + b.size + 1) : Nat) : Int) - 1 = _; omega
    rw [h1]
    rw [show m + (Tr.op k a b).size - 1 = m + a.size + b.size by show m + (a.size + b.size + 1) - 1 = _; omega] at hroot
    have hin : m + a.size + b.size < l.length := by have : m + (a.size + b.size + 1) ≤ l.length := hlen; omega
    have hA := fun least (W' : PW) (lw : W.Le W') => operand_x hoa (by omega) (iha hoa) least l m u W' hla hl (hr.mono lw)
    have hB := fun least (W' : PW) (lw : W.Le W') => operand_x hob (by omega) (ihb hob) least l (m + a.size) u W' hrb hl (hr.mono lw)
    have hta := txtT_len a hoa
    have htb := txtT_len b hob
    have l1 := opd_len (bindK k) a (txtT a)
    have l2 := opd_len (bindK k + 1) b (txtT b)
    have l3 := signK_len k
    have hbk := bindK_le k
    have etx : txtT (.op k a b) = opd (bindK k) a (txtT a) ++ signK k ++ opd (bindK k + 1) b (txtT b) := rfl
    rw [etx]
    obtain ⟨A, c, rfl, _, _⟩ := hr.form
    obtain ⟨e, he⟩ : ∃ e, m + a.size + b.size = e := ⟨_, rfl⟩
    rw [he] at hroot hin ⊢
    obtain ⟨na, hna⟩ : ∃ na : Int, ((m + a.size : Nat) : Int) - 1 = na := ⟨_, rfl⟩
    obtain ⟨nb, hnb⟩ : ∃ nb : Int, ((m + a.size + b.size : Nat) : Int) - 1 = nb := ⟨_, rfl⟩
    have hrt : rootN m (.op k a b) = ⟨k, [], [], na, nb⟩ := by rw [← hna, ← hnb]; rfl
    rw [hrt] at hroot
    rw [hna] at hA
    rw [hnb] at hB
    refine pureX hmix Try.func109 r109 (by kernel_rfl) [.slice A l.length c, .int .i64 e] rfl ?_
    obtain ⟨pc, rfl, n, hn, _, _, hrd⟩ := hr.at (sz := 5) (fun _ => rfl) (PW.Le.refl _) (j := e) ⟨by omega, by omega⟩
    have hn : l[e]? = some n := hn
    rw [hroot] at hn
    obtain rfl := Option.some.inj hn
    refine ⟨⟨by omega, by omega⟩, pc, rfl, nodeC ⟨k, [], [], na, nb⟩, rfl, hrd.o, rfl, br_split (fun h => ?_) (fun _ => ?_)⟩
    · have h : (k : Int) = 1 := h
      omega
    refine ⟨rfl, br_split (fun h => ?_) (fun _ => ?_)⟩
    · have h : (k : Int) = 2 := h
      omega
    refine ⟨rfl, br_split (fun h => ?_) (fun _ => ?_)⟩
    · have h : (k : Int) = 3 := h
      omega
    refine call_v rfl (fun W' _ => bind_x k W') (fun W3 v W4 w3 w4 hv => ?_)
    obtain ⟨bk, hbk2, rfl⟩ : ∃ b, bindK k = b ∧ v = .int .i64 b := ⟨_, rfl, hv⟩
    rw [hbk2] at hbk l1 l2
    have w1b : IntKind.i64.wrap (bk + 1) = bk + 1 := i64_in _ ⟨by omega, by omega⟩
    refine ⟨rfl, _, w1b.symm, ?_⟩
    refine call_v rfl (fun W' lw => hA bk W' (w3.trans (w4.trans lw))) (fun W5 v W6 w5 w6 hv => ?_)
    have w36 := w3.trans (w4.trans (w5.trans w6))
    obtain ⟨sa, hsa, rfl⟩ : ∃ s, opd bk a (txtT a) = s ∧ v = strV s := ⟨_, rfl, hv⟩
    rw [hsa] at l1
    refine call_v rfl (fun W' _ => sign_x k W') (fun W7 v W8 w7 w8 hv => ?_)
    obtain ⟨sk, hsk, rfl⟩ : ∃ s, signK k = s ∧ v = strV s := ⟨_, rfl, hv⟩
    rw [hsk] at l3
    have w38 := w36.trans (w7.trans w8)
    refine ⟨cat_le4 100000000 (by show sa.length + sk.length ≤ _; omega) (by decide), ?_⟩
    refine call_v rfl (fun W' lw => hB (bk + 1) W' (w38.trans lw)) (fun W9 v W10 w9 w10 hv => ?_)
    obtain ⟨sb, hsb, rfl⟩ : ∃ s, opd (bk + 1) b (txtT b) = s ∧ v = strV s := ⟨_, rfl, hv⟩
    rw [hsb] at l2
    refine ⟨cat_le4 100000000 (by show (sa ++ sk).length + sb.length ≤ _; rw [List.length_append]; omega) (by decide), ret_plain rfl fun _ _ => ?_⟩
    rw [hbk2, hsa, hsk, hsb]; rfl
  | this =>
    intro ht l m u W hat hl hr
    have hroot := hat.root
    have hlen := hat.len
    have h1 : ((m + Tr.this.size : Nat) - 1 : Int) = (m : Int) := by show ((m + 1 : Nat) : Int) - 1 = _; omega
    rw [h1]
    have hin : m < l.length := hlen
    have hroot : l[m]? = some ⟨1, [], [], 0, 0⟩ := hroot
    obtain ⟨A, c, rfl, _, _⟩ := hr.form
    refine pureX hmix Try.func109 r109 (by kernel_rfl) [.slice A l.length c, .int .i64 m] rfl ?_
    obtain ⟨pc, rfl, n, hn, _, _, hrd⟩ := hr.at (sz := 5) (fun _ => rfl) (PW.Le.refl _) (j := m) ⟨by omega, by omega⟩
    have hn : l[m]? = some n := hn
    rw [hroot] at hn
    obtain rfl := Option.some.inj hn
    exact ⟨⟨by omega, by omega⟩, pc, rfl, nodeC ⟨1, [], [], 0, 0⟩, rfl, hrd.o, rfl, ret_plain rfl fun _ _ => rfl⟩
  | rel w =>
    intro ht l m u W hat hl hr
    have hroot := hat.root
    have hlen := hat.len
    have h1 : ((m + (Tr.rel w).size : Nat) - 1 : Int) = (m : Int) := by show ((m + 1 : Nat) : Int) - 1 = _; omega
    rw [h1]
    have hin : m < l.length := hlen
    have hroot : l[m]? = some ⟨2, w, [], 0, 0⟩ := hroot
    obtain ⟨A, c, rfl, _, _⟩ := hr.form
    refine pureX hmix Try.func109 r109 (by kernel_rfl) [.slice A l.length c, .int .i64 m] rfl ?_
    obtain ⟨pc, rfl, n, hn, _, _, hrd⟩ := hr.at (sz := 5) (fun _ => rfl) (PW.Le.refl _) (j := m) ⟨by omega, by omega⟩
    have hn : l[m]? = some n := hn
    rw [hroot] at hn
    obtain rfl := Option.some.inj hn
    exact ⟨⟨by omega, by omega⟩, pc, rfl, nodeC ⟨2, w, [], 0, 0⟩, rfl, hrd.o, rfl, rfl, ret_plain rfl fun _ _ => rfl⟩
  | arrow w v =>
    intro ht l m u W hat hl hr
    have hroot := hat.root
    have hlen := hat.len
    have hw := wordS_len ht.1
    have hv := wordS_len ht.2
    have h1 : ((m + (Tr.arrow w v).size : Nat) - 1 : Int) = (m : Int) := by show ((m + 1 : Nat) : Int) - 1 = _; omega
    rw [h1]
    have hin : m < l.length := hlen
    have hroot : l[m]? = some ⟨3, w, v, 0, 0⟩ := hroot
    obtain ⟨A, c, rfl, _, _⟩ := hr.form
    refine pureX hmix Try.func109 r109 (by kernel_rfl) [.slice A l.length c, .int .i64 m] rfl ?_
    obtain ⟨pc, rfl, n, hn, _, _, hrd⟩ := hr.at (sz := 5) (fun _ => rfl) (PW.Le.refl _) (j := m) ⟨by omega, by omega⟩
    have hn : l[m]? = some n := hn
    rw [hroot] at hn
    obtain rfl := Option.some.inj hn
    refine ⟨⟨by omega, by omega⟩, pc, rfl, nodeC ⟨3, w, v, 0, 0⟩, rfl, hrd.o, rfl, rfl, rfl, ?_⟩
    refine ⟨cat_le4 1000 (by show w.length + 2 ≤ _; omega) (by decide), cat_le4 1000 (by show (w ++ [45, 62]).length + v.length ≤ _; simp only [List.length_append, List.length_cons, List.length_nil]; omega) (by decide), ret_plain rfl fun _ _ => rfl⟩
theorem showexpr_x (l : List NodeS) (hl : l.length ≤ 100000) (hok : ∀ n ∈ l, n.small) (u : Value) (W : PW) (hr : RP nodeC W u l) : CallsX Try.prog 59 ⟨[u]⟩ [] W fun v _ => (deepN l = 0 → v = strV []) ∧ ∀ t : Tr, t.ok → l = layN 0 t → v = strV (txtT t) := by
  obtain ⟨A, c, rfl, _, _⟩ := hr.form
  refine pureX hmix Try.func59 r59 (by kernel_rfl) [.slice A l.length c] rfl ?_
  refine call_v rfl (fun W' lw => deep_x l _ hl hok W' (hr.mono lw)) (fun W3 v W4 l3 l4 hv => ?_)
  obtain ⟨d, hd, rfl⟩ : ∃ d, deepN l = d ∧ v = .int .i64 d := ⟨_, rfl, hv⟩
  refine ⟨rfl, br_split (fun h0 => ?_) (fun h0 => ?_)⟩
  · have h0 : d = 0 := h0
    refine ret_plain rfl fun _ _ => ⟨fun _ => rfl, fun t ht e => ?_⟩
    rw [e, layN_deep ht] at hd
    have : 1 ≤ t.dep := by cases t <;> simp [Tr.dep]
    omega
  have h0 : ¬ d = 0 := h0
  obtain ⟨t, ht, e, _⟩ := deep_lay (l := l) (by rw [hd]; exact h0)
  have hsz : l.length = t.size := by rw [e, layN_len]
  have hat : At l 0 t := ⟨[], [], by rw [List.nil_append, List.append_nil]; exact e, rfl⟩
  refine ⟨rfl, _, (i64_in ((l.length : Int) - 1) ⟨by omega, by omega⟩).symm, ?_⟩
  have h1 : ((0 + t.size : Nat) - 1 : Int) = (l.length : Int) - 1 := by rw [hsz]; omega
  have hT := fun (W' : PW) (lw : W.Le W') => showtext_x t ht l 0 _ W' hat hl (hr.mono lw)
  rw [h1] at hT
  refine call_v rfl (fun W' lw => hT W' (l3.trans (l4.trans lw))) (fun W5 v W6 l5 l6 hv => ?_)
  subst hv
  refine ret_plain rfl fun _ _ => ⟨fun h => absurd (hd.symm.trans h) h0, fun t' ht' e' => ?_⟩
  rw [lay_inj ht ht' (e.symm.trans e')]
end Go.Proofs.Ytcgbcbdgjhnlaaa
