/- Layer 16 (rule): the document's parser, plain and walked; it answers as the program's. -/
import Derived.Test.YtcgbcbdgjhnlaaaGreatXPG
import Derived.Test.YtcgbcbdgjhnlaaaGreatXPE
import Derived.Test.YtcgbcbdgjhnlaaaGreatXPD
import Derived.Test.YtcgbcbdgjhnlaaaGreatXCodeZ
import Derived.Test.YtcgbcbdgjhnlaaaGreatXPB
namespace Go.Proofs.YtcgbcbdgjhnlaaaGreat

/-- Where the nodes begin that end ahead of a place, and how deep they are. -/
def treeD (l : List NodeS) : Nat → Nat → Option (Nat × Nat)
  | 0, _ => none
  | _, 0 => none
  | f + 1, e + 1 => match l[e]? with
    | none => none
    | some n => if isOp n then
        match treeD l f e with
        | none => none
        | some (b, x) => match treeD l f b with
          | none => none
          | some (a, y) => if n.a = (b : Int) - 1 ∧ n.b = (e : Int) - 1 ∧ n.rel = [] ∧ n.thn = [] then some (a, (if x < y then y else x) + 1) else none
      else if leafN n then some (e, 1) else none
def deepD (l : List NodeS) : Nat := match treeD l l.length l.length with | some (0, d) => d | _ => 0
def muchD (r : RelS) : Bool := decide (8 < r.types.length) || (decide (64 < r.nodes.length) || decide (16 < deepD r.nodes))
def muchC (c : ConfS) : Bool := (decide (16 < c.spaces.length) || decide (16 < c.scopes.length)) || c.spaces.any fun s => decide (16 < s.rels.length) || s.rels.any muchD
end Go.Proofs.YtcgbcbdgjhnlaaaGreat

namespace Go.Proofs.YtcgbcbdgjhnlaaaGreat
open Go.RowKit

end Go.Proofs.YtcgbcbdgjhnlaaaGreat

namespace Go.Proofs.YtcgbcbdgjhnlaaaGreat
open Go.RowKit

end Go.Proofs.YtcgbcbdgjhnlaaaGreat

namespace Go.Proofs.YtcgbcbdgjhnlaaaGreat
open Go.RowKit

end Go.Proofs.YtcgbcbdgjhnlaaaGreat

namespace Go.Proofs.YtcgbcbdgjhnlaaaGreat
open Go.RowKit

end Go.Proofs.YtcgbcbdgjhnlaaaGreat

namespace Go.Proofs.YtcgbcbdgjhnlaaaGreat
open Go.RowKit

end Go.Proofs.YtcgbcbdgjhnlaaaGreat

namespace Go.Proofs.YtcgbcbdgjhnlaaaGreat
open Go.RowKit

end Go.Proofs.YtcgbcbdgjhnlaaaGreat

namespace Go.Proofs.YtcgbcbdgjhnlaaaGreat
open Go.RowKit

def tA : Option (Nat × Nat) → Int
  | some (a, _) => a
  | none => -1
def tD : Option (Nat × Nat) → Int
  | some (_, d) => d
  | none => 0
theorem treeD_zero (l : List NodeS) (f : Nat) : treeD l f 0 = none := by cases f <;> rfl
theorem treeD_le (l : List NodeS) : ∀ (f e a d : Nat), treeD l f e = some (a, d) → a < e ∧ e ≤ l.length ∧ 1 ≤ d ∧ d + a ≤ e
  | 0, e, a, d, h => by cases h
  | f + 1, 0, a, d, h => by cases h
  | f + 1, e + 1, a, d, h => by
    simp only [treeD] at h
    split at h
    · cases h
    · rename_i n hn
      have hl := (List.getElem?_eq_some_iff.1 hn).1
      split at h
      · split at h
        · cases h
        · rename_i b x hb
          have h1 := treeD_le l f _ _ _ hb
          split at h
          · cases h
          · rename_i a' y ha
            have h2 := treeD_le l f _ _ _ ha
            split at h
            · simp only [Option.some.injEq, Prod.mk.injEq] at h
              obtain ⟨rfl, rfl⟩ := h
              split <;> omega
            · cases h
      · split at h
        · simp only [Option.some.injEq, Prod.mk.injEq] at h
          omega
        · cases h
theorem tA_neg {o : Option (Nat × Nat)} (h : tA o < 0) : o = none := by
  cases o with
  | none => rfl
  | some p => exact absurd h (by show ¬ (p.1 : Int) < 0; omega)
theorem tA_pos {o : Option (Nat × Nat)} {e d : Int} (h : ¬ tA o < 0) (he : tA o = e) (hd : tD o = d) : ∃ x y : Nat, o = some (x, y) ∧ e = x ∧ d = y := by
  cases o with
  | none => exact absurd (by show (-1 : Int) < 0; decide) h
  | some p => exact ⟨p.1, p.2, rfl, he.symm, hd.symm⟩
def TreeC (l : List NodeS) (f : Nat) : Prop := ∀ (e : Nat) (u : Value) (W : PW), e ≤ f → e ≤ l.length → RP nodeC W u l → CallsX Tryz.prog 65 ⟨[u, .int .i64 ((e : Int) - 1)]⟩ [] W fun v _ => v = .tuple ⟨[.int .i64 (tA (treeD l f e)), .int .i64 (tD (treeD l f e))]⟩
set_option maxHeartbeats 4000000 in
theorem tree_x {l : List NodeS} (hl : l.length ≤ 100000) (hok : ∀ n ∈ l, n.small) : ∀ f : Nat, TreeC l f := by
  have zero : ∀ f, ∀ (u : Value) (W : PW), RP nodeC W u l → CallsX Tryz.prog 65 ⟨[u, .int .i64 (((0 : Nat) : Int) - 1)]⟩ [] W fun v _ => v = .tuple ⟨[.int .i64 (tA (treeD l f 0)), .int .i64 (tD (treeD l f 0))]⟩ := by
    intro f u W h
    rw [treeD_zero]
    obtain ⟨e, he, he'⟩ : ∃ e : Int, ((0 : Nat) : Int) - 1 = e ∧ e = -1 := ⟨_, rfl, rfl⟩
    rw [he]
    refine pureX hmix Tryz.func65 r65 (by kernel_rfl) [u, .int .i64 e] rfl ?_
    refine ⟨rfl, br_split (fun _ => ?_) (fun hneg => ?_)⟩
    · exact ret_plain rfl fun _ _ => rfl
    · have hneg : ¬ e < 0 := hneg
      omega
  intro f
  induction f with
  | zero =>
    intro e u W he _ h
    obtain rfl : e = 0 := by omega
    exact zero 0 u W h
  | succ f ih =>
    intro e u W he hel h
    cases e with
    | zero => exact zero _ u W h
    | succ e =>
    have h0 := h
    obtain ⟨A, c, rfl, _, _⟩ := h.form
    have ee : (((e + 1 : Nat) : Int) - 1) = (e : Int) := by omega
    rw [ee]
    have hlt : e < l.length := by omega
    obtain ⟨n, hn⟩ : ∃ n, l[e]? = some n := ⟨_, List.getElem?_eq_getElem hlt⟩
    obtain ⟨sm1, sm2⟩ := hok n (List.mem_of_getElem? hn)
    obtain ⟨RR, hRR⟩ : ∃ RR, treeD l (f + 1) (e + 1) = RR := ⟨_, rfl⟩
    rw [hRR]
    have hdef : RR = if isOp n then
        match treeD l f e with
        | none => none
        | some (b, x) => match treeD l f b with
          | none => none
          | some (a, y) => if n.a = (b : Int) - 1 ∧ n.b = (e : Int) - 1 ∧ n.rel = [] ∧ n.thn = [] then some (a, (if x < y then y else x) + 1) else none
      else if leafN n then some (e, 1) else none := by rw [← hRR]; simp only [treeD, hn]; (first | done | rfl)
    refine pureX hmix Tryz.func65 r65 (by kernel_rfl) [.slice A l.length c, .int .i64 e] rfl ?_
    refine vc_assoc (vc_assoc (vc_cut (fun f' S' => ∃ W1, S' = ⟨[(nodeC n).map .v], [], W1⟩ ∧ W.Le W1 ∧ AllSl f' [(0, .v (.slice A l.length c)), (1, .v (.int .i64 e)), (6, .lp 0 0)]) ?_ ?_))
    · obtain ⟨pc, rfl, x, hx, _, _, hrd⟩ := h.at (sz := 5) (fun _ => rfl) (PW.Le.refl _) (j := e) ⟨by omega, by omega⟩
      have hx : l[e]? = some x := hx
      obtain rfl : x = n := by rw [hx] at hn; exact Option.some.inj hn
      exact ⟨rfl, ⟨by omega, by omega⟩, pc, rfl, nodeC x, rfl, hrd.o, W, rfl, PW.Le.refl _, ⟨rfl, rfl, rfl, trivial⟩⟩
    rintro f' S' ⟨W1, rfl, l1, hfr⟩
    obtain ⟨k, r, t, na, nb⟩ := n
    dsimp only at sm1 sm2 hdef
    refine vc_rassoc (vc_cut (fun f' S' => ∃ W1, S' = ⟨[(nodeC ⟨k, r, t, na, nb⟩).map .v], [], W1⟩ ∧ W.Le W1 ∧ AllSl f' [(0, .v (.slice A l.length c)), (1, .v (.int .i64 e)), (6, .lp 0 0), (30, .v (.bool (isOp ⟨k, r, t, na, nb⟩)))]) ?_ ?_)
    · refine vc_at _ hfr ?_
      refine ⟨rfl, ?_⟩
      apply br_split
      · intro h4
        have h4 : (k : Int) = 4 := h4
        have e : isOp ⟨k, r, t, na, nb⟩ = true := by unfold isOp; rw [decide_eq_true (show k = 4 by omega)]; (first | done | rfl)
        rw [e]
        exact ⟨W1, rfl, l1, ⟨rfl, rfl, rfl, rfl, trivial⟩⟩
      intro h4
      have h4 : ¬ (k : Int) = 4 := h4
      refine ⟨rfl, ?_⟩
      apply br_split
      · intro h5
        have h5 : (k : Int) = 5 := h5
        have e : isOp ⟨k, r, t, na, nb⟩ = true := by unfold isOp; rw [decide_eq_true (show k = 5 by omega)]; simp
        rw [e]
        exact ⟨W1, rfl, l1, ⟨rfl, rfl, rfl, rfl, trivial⟩⟩
      intro h5
      have h5 : ¬ (k : Int) = 5 := h5
      have e : isOp ⟨k, r, t, na, nb⟩ = decide ((k : Int) = 6) := by
        unfold isOp
        rw [decide_eq_false (show ¬ k = 4 by omega), decide_eq_false (show ¬ k = 5 by omega), Bool.or_self, Bool.false_or]
      rw [e]
      exact ⟨rfl, W1, rfl, l1, ⟨rfl, rfl, rfl, rfl, trivial⟩⟩
    rintro f' S' ⟨W1, rfl, l1, hfr⟩
    refine vc_at _ hfr ?_
    obtain ⟨op, hop⟩ : ∃ op, isOp ⟨k, r, t, na, nb⟩ = op := ⟨_, rfl⟩
    rw [hop] at hdef ⊢
    cases op with
    | true =>
      rw [if_pos rfl] at hdef
      refine ⟨rfl, _, (i64_in ((e : Int) - 1) ⟨by omega, by omega⟩).symm, ?_⟩
      refine call_v rfl (fun W' lw => ih e _ W' (by omega) (by omega) (h0.mono (l1.trans lw))) (fun W3 v W4 l3 l4 hv => ?_)
      obtain ⟨o, ho⟩ : ∃ o, treeD l f e = o := ⟨_, rfl⟩
      rw [ho] at hv hdef
      obtain ⟨b', hb', hv⟩ : ∃ b', tA o = b' ∧ v = .tuple ⟨[.int .i64 b', .int .i64 (tD o)]⟩ := ⟨_, rfl, hv⟩
      obtain ⟨x', hx', rfl⟩ : ∃ x', tD o = x' ∧ v = .tuple ⟨[.int .i64 b', .int .i64 x']⟩ := ⟨_, rfl, hv⟩
      refine ⟨_, rfl, _, rfl, rfl, ?_⟩
      apply br_split
      · intro hneg
        have := tA_neg (hb' ▸ hneg)
        rw [this] at hdef
        refine ret_plain rfl fun _ _ => ?_
        rw [hdef]; (first | done | rfl)
      intro hneg
      obtain ⟨b, x, rfl, rfl, rfl⟩ := tA_pos (hb' ▸ hneg) hb' hx'
      obtain ⟨q1, q2, q3, q4⟩ := treeD_le l f _ _ _ ho
      dsimp only at hdef
      have l14 := l1.trans (l3.trans l4)
      refine ⟨rfl, _, (i64_in ((b : Int) - 1) ⟨by omega, by omega⟩).symm, ?_⟩
      refine call_v rfl (fun W' lw => ih b _ W' (by omega) (by omega) (h0.mono (l14.trans lw))) (fun W5 v W6 l5 l6 hv => ?_)
      obtain ⟨o2, ho2⟩ : ∃ o, treeD l f b = o := ⟨_, rfl⟩
      rw [ho2] at hv hdef
      obtain ⟨a', ha', hv⟩ : ∃ b', tA o2 = b' ∧ v = .tuple ⟨[.int .i64 b', .int .i64 (tD o2)]⟩ := ⟨_, rfl, hv⟩
      obtain ⟨y', hy', rfl⟩ : ∃ x', tD o2 = x' ∧ v = .tuple ⟨[.int .i64 a', .int .i64 x']⟩ := ⟨_, rfl, hv⟩
      refine ⟨_, rfl, _, rfl, rfl, ?_⟩
      apply br_split
      · intro hneg
        have := tA_neg (ha' ▸ hneg)
        rw [this] at hdef
        refine ret_plain rfl fun _ _ => ?_
        rw [hdef]; (first | done | rfl)
      intro hneg
      obtain ⟨a, y, rfl, rfl, rfl⟩ := tA_pos (ha' ▸ hneg) ha' hy'
      obtain ⟨p1, p2, p3, p4⟩ := treeD_le l f _ _ _ ho2
      dsimp only at hdef
      have no : ¬ (na = (b : Int) - 1 ∧ nb = (e : Int) - 1 ∧ r = [] ∧ t = []) → Value.tuple ⟨[.int .i64 (-1), .int .i64 0]⟩ = .tuple ⟨[.int .i64 (tA RR), .int .i64 (tD RR)]⟩ := fun h => by rw [if_neg h] at hdef; rw [hdef]; (first | done | rfl)
      refine ⟨rfl, _, (i64_in ((b : Int) - 1) ⟨by omega, by omega⟩).symm, rfl, ?_⟩
      apply br_nsplit
      · intro hc
        have hc : ¬ na = (b : Int) - 1 := hc
        exact ret_plain rfl fun _ _ => no fun h => hc h.1
      intro hc1
      have hc1 : na = (b : Int) - 1 := hc1
      refine ⟨rfl, _, (i64_in ((e : Int) - 1) ⟨by omega, by omega⟩).symm, rfl, ?_⟩
      apply br_nsplit
      · intro hc
        have hc : ¬ nb = (e : Int) - 1 := hc
        exact ret_plain rfl fun _ _ => no fun h => hc h.2.1
      intro hc2
      have hc2 : nb = (e : Int) - 1 := hc2
      apply br_nsplit
      · intro hc
        have hc : ¬ r = [] := hc
        exact ret_plain rfl fun _ _ => no fun h => hc h.2.2.1
      intro hc3
      have hc3 : r = [] := hc3
      apply br_nsplit
      · intro hc
        have hc : ¬ t = [] := hc
        exact ret_plain rfl fun _ _ => no fun h => hc h.2.2.2
      intro hc4
      have hc4 : t = [] := hc4
      rw [if_pos ⟨hc1, hc2, hc3, hc4⟩] at hdef
      refine ⟨rfl, ?_⟩
      apply br_split
      · intro hxy
        have hxy : (x : Int) < y := hxy
        have wy : IntKind.i64.wrap ((y : Int) + 1) = ((y + 1 : Nat) : Int) := by rw [i64_in _ ⟨by omega, by omega⟩]; omega
        refine ⟨rfl, _, wy.symm, ret_plain rfl fun _ _ => ?_⟩
        rw [hdef, if_pos (show x < y by omega)]; (first | done | rfl)
      · intro hxy
        have hxy : ¬ (x : Int) < y := hxy
        have wy : IntKind.i64.wrap ((x : Int) + 1) = ((x + 1 : Nat) : Int) := by rw [i64_in _ ⟨by omega, by omega⟩]; omega
        refine ⟨rfl, _, wy.symm, ret_plain rfl fun _ _ => ?_⟩
        rw [hdef, if_neg (show ¬ x < y by omega)]; (first | done | rfl)
    | false =>
      rw [if_neg Bool.false_ne_true] at hdef
      have no : leafN ⟨k, r, t, na, nb⟩ = false → Value.tuple ⟨[.int .i64 (-1), .int .i64 0]⟩ = .tuple ⟨[.int .i64 (tA RR), .int .i64 (tD RR)]⟩ := fun h => by rw [h, if_neg Bool.false_ne_true] at hdef; rw [hdef]; (first | done | rfl)
      have yes : leafN ⟨k, r, t, na, nb⟩ = true → Value.tuple ⟨[.int .i64 e, .int .i64 1]⟩ = .tuple ⟨[.int .i64 (tA RR), .int .i64 (tD RR)]⟩ := fun h => by rw [h, if_pos rfl] at hdef; rw [hdef]; (first | done | rfl)
      refine vc_cut (fun f' S' => ∃ W1, S' = ⟨[(nodeC ⟨k, r, t, na, nb⟩).map .v], [], W1⟩ ∧ W.Le W1 ∧ AllSl f' [(0, .v (.slice A l.length c)), (1, .v (.int .i64 e)), (6, .lp 0 0)]) ?_ ?_
      · exact ⟨W1, rfl, l1, ⟨rfl, rfl, rfl, trivial⟩⟩
      rintro f' S' ⟨W1, rfl, l1, hfr⟩
      refine vc_cut (fun f' S' => ∃ W1, S' = ⟨[(nodeC ⟨k, r, t, na, nb⟩).map .v], [], W1⟩ ∧ W.Le W1 ∧ AllSl f' [(0, .v (.slice A l.length c)), (1, .v (.int .i64 e)), (6, .lp 0 0), (11, .v (.bool (decide (na = 0) && decide (nb = 0))))]) ?_ ?_
      · refine vc_at _ hfr ?_
        refine ⟨rfl, ?_⟩
        apply br_split
        · intro hc
          have hc : na = 0 := hc
          refine ⟨rfl, W1, rfl, l1, ⟨rfl, rfl, rfl, ?_, trivial⟩⟩
          show GV.v (.bool (decide (nb = 0))) = _
          rw [decide_eq_true hc, Bool.true_and]
        · intro hc
          have hc : ¬ na = 0 := hc
          refine ⟨W1, rfl, l1, ⟨rfl, rfl, rfl, ?_, trivial⟩⟩
          show GV.v (.bool false) = _
          rw [decide_eq_false hc, Bool.false_and]
      rintro f' S' ⟨W1, rfl, l1, hfr⟩
      refine vc_cut (fun f' S' => ∃ W1, S' = ⟨[(nodeC ⟨k, r, t, na, nb⟩).map .v], [], W1⟩ ∧ W.Le W1 ∧ AllSl f' [(0, .v (.slice A l.length c)), (1, .v (.int .i64 e)), (6, .lp 0 0), (11, .v (.bool (leafN ⟨k, r, t, na, nb⟩)))]) ?_ ?_
      · refine vc_at _ hfr ?_
        have hleaf : leafN ⟨k, r, t, na, nb⟩ = ((decide (na = 0) && decide (nb = 0)) && (if k = 1 then decide (r = []) && decide (t = []) else if k = 2 then wordS r && decide (t = []) else if k = 3 then wordS r && wordS t else false)) := rfl
        obtain ⟨z, hz⟩ : ∃ z, (decide (na = 0) && decide (nb = 0)) = z := ⟨_, rfl⟩
        rw [hz] at hleaf ⊢
        refine ⟨rfl, ?_⟩
        apply br_split
        · intro hk
          have hk : (k : Int) = 1 := hk
          rw [if_pos (show k = 1 by omega)] at hleaf
          cases z with
          | false => exact ⟨W1, rfl, l1, ⟨rfl, rfl, rfl, by rw [hleaf]; (first | done | rfl), trivial⟩⟩
          | true =>
            apply br_split
            · intro hr
              have hr : r = [] := hr
              refine ⟨W1, rfl, l1, ⟨rfl, rfl, rfl, ?_, trivial⟩⟩
              rw [hleaf, decide_eq_true hr]; (first | done | rfl)
            · intro hr
              have hr : ¬ r = [] := hr
              refine ⟨W1, rfl, l1, ⟨rfl, rfl, rfl, ?_, trivial⟩⟩
              rw [hleaf, decide_eq_false hr]; (first | done | rfl)
        intro hk1
        have hk1 : ¬ (k : Int) = 1 := hk1
        rw [if_neg (show ¬ k = 1 by omega)] at hleaf
        refine ⟨rfl, ?_⟩
        apply br_split
        · intro hk
          have hk : (k : Int) = 2 := hk
          rw [if_pos (show k = 2 by omega)] at hleaf
          cases z with
          | false => exact ⟨W1, rfl, l1, ⟨rfl, rfl, rfl, by rw [hleaf]; (first | done | rfl), trivial⟩⟩
          | true =>
            refine call_v rfl (fun W' _ => refword_xl r sm1 W') (fun W3 v W4 l3 l4 hv => ?_)
            obtain ⟨w, hw, rfl⟩ : ∃ w, wordS r = w ∧ v = .bool w := ⟨_, rfl, hv⟩
            rw [hw] at hleaf
            cases w with
            | false => exact ⟨W4, rfl, l1.trans (l3.trans l4), ⟨rfl, rfl, rfl, by rw [hleaf]; (first | done | rfl), trivial⟩⟩
            | true => exact ⟨W4, rfl, l1.trans (l3.trans l4), ⟨rfl, rfl, rfl, by rw [hleaf]; (first | done | rfl), trivial⟩⟩
        intro hk2
        have hk2 : ¬ (k : Int) = 2 := hk2
        rw [if_neg (show ¬ k = 2 by omega)] at hleaf
        refine ⟨rfl, ?_⟩
        apply br_split
        · intro hk
          have hk : (k : Int) = 3 := hk
          rw [if_pos (show k = 3 by omega)] at hleaf
          cases z with
          | false => exact ⟨W1, rfl, l1, ⟨rfl, rfl, rfl, by rw [hleaf]; (first | done | rfl), trivial⟩⟩
          | true =>
            refine call_v rfl (fun W' _ => refword_xl r sm1 W') (fun W3 v W4 l3 l4 hv => ?_)
            obtain ⟨w, hw, rfl⟩ : ∃ w, wordS r = w ∧ v = .bool w := ⟨_, rfl, hv⟩
            rw [hw] at hleaf
            cases w with
            | false => exact ⟨W4, rfl, l1.trans (l3.trans l4), ⟨rfl, rfl, rfl, by rw [hleaf]; (first | done | rfl), trivial⟩⟩
            | true =>
              refine call_v rfl (fun W' _ => refword_xl t sm2 W') (fun W5 v W6 l5 l6 hv => ?_)
              subst hv
              exact ⟨W6, rfl, l1.trans (l3.trans (l4.trans (l5.trans l6))), ⟨rfl, rfl, rfl, by rw [hleaf]; (first | done | rfl), trivial⟩⟩
        · intro hk3
          have hk3 : ¬ (k : Int) = 3 := hk3
          rw [if_neg (show ¬ k = 3 by omega)] at hleaf
          refine ⟨W1, rfl, l1, ⟨rfl, rfl, rfl, ?_, trivial⟩⟩
          rw [hleaf, Bool.and_false]; (first | done | rfl)
      rintro f' S' ⟨W1, rfl, l1, hfr⟩
      refine vc_at _ hfr ?_
      obtain ⟨z, hz⟩ : ∃ z, leafN ⟨k, r, t, na, nb⟩ = z := ⟨_, rfl⟩
      rw [hz]
      cases z with
      | false => exact ret_plain rfl fun _ _ => no hz
      | true => exact ret_plain rfl fun _ _ => yes hz
end Go.Proofs.YtcgbcbdgjhnlaaaGreat

namespace Go.Proofs.YtcgbcbdgjhnlaaaGreat

end Go.Proofs.YtcgbcbdgjhnlaaaGreat

namespace Go.Proofs.YtcgbcbdgjhnlaaaGreat

end Go.Proofs.YtcgbcbdgjhnlaaaGreat

namespace Go.Proofs.YtcgbcbdgjhnlaaaGreat
open Go.RowKit

def dOf : Option (Nat × Nat) → Nat
  | some (0, d) => d
  | _ => 0
theorem deepD_eq (l : List NodeS) : deepD l = dOf (treeD l l.length l.length) := rfl
theorem deepd_x (l : List NodeS) (hl : l.length ≤ 100000) (hok : ∀ n ∈ l, n.small) (u : Value) (W : PW) (h : RP nodeC W u l) : CallsX Tryz.prog 46 ⟨[u]⟩ [] W fun v _ => v = .int .i64 (deepD l) := by
  obtain ⟨A, c, rfl, _, _⟩ := h.form
  refine pureX hmix Tryz.func46 r46 (by kernel_rfl) [.slice A l.length c] rfl ?_
  refine ⟨rfl, _, (i64_in ((l.length : Int) - 1) ⟨by omega, by omega⟩).symm, ?_⟩
  refine call_v rfl (fun W' lw => tree_x hl hok l.length l.length _ W' (Nat.le_refl _) (Nat.le_refl _) (h.mono lw)) (fun W3 v W4 l3 l4 hv => ?_)
  obtain ⟨o, ho⟩ : ∃ o, treeD l l.length l.length = o := ⟨_, rfl⟩
  rw [ho] at hv
  have hD : deepD l = dOf o := by rw [deepD_eq, ho]
  obtain ⟨a, ha, hv⟩ : ∃ b', tA o = b' ∧ v = .tuple ⟨[.int .i64 b', .int .i64 (tD o)]⟩ := ⟨_, rfl, hv⟩
  obtain ⟨d, hd, rfl⟩ : ∃ x', tD o = x' ∧ v = .tuple ⟨[.int .i64 a, .int .i64 x']⟩ := ⟨_, rfl, hv⟩
  refine ⟨_, rfl, _, rfl, rfl, ?_⟩
  apply br_nsplit
  · intro hn
    have hn : ¬ a = 0 := hn
    refine ret_plain rfl fun _ _ => ?_
    rw [hD]
    cases o with
    | none => rfl
    | some p =>
      obtain ⟨a', d'⟩ := p
      cases a' with
      | zero => exact absurd ha.symm hn
      | succ a' => rfl
  · intro hn
    have hn : a = 0 := hn
    refine ret_plain rfl fun _ _ => ?_
    rw [hD]
    subst hn
    cases o with
    | none => cases ha
    | some p =>
      obtain ⟨a', d'⟩ := p
      cases a' with
      | zero => rw [← hd]; (first | done | rfl)
      | succ a' => have ha : ((a' + 1 : Nat) : Int) = 0 := ha; omega
def badS (s : SpaceS) : Bool := decide (16 < s.rels.length) || s.rels.any muchD
theorem any_no {α : Type} {q : α → Bool} {l : List α} (h : ∀ y ∈ l, q y = false) : l.any q = false := by
  rw [Bool.eq_false_iff, ne_eq, List.any_eq_true]
  rintro ⟨x, hx, hq⟩; rw [h x hx] at hq; cases hq
theorem any_yes {α : Type} {q : α → Bool} {l : List α} {x : α} (hx : x ∈ l) (h : q x = true) : l.any q = true := List.any_eq_true.2 ⟨x, hx, h⟩
theorem take_none {α : Type} {q : α → Bool} {l : List α} {i : Nat} {x : α} (hx : l[i]? = some x) (h : ∀ y ∈ l.take i, q y = false) (hq : q x = false) : ∀ y ∈ l.take (i + 1), q y = false := by
  intro y hy
  rw [List.take_add_one, hx] at hy
  rcases List.mem_append.1 hy with hy | hy
  · exact h y hy
  · simp at hy; subst hy; exact hq
set_option maxHeartbeats 4000000 in
theorem muchd_x (x : ConfS) (cs : List Value) (hl : x.spaces.length ≤ 100000) (hok : ∀ s ∈ x.spaces, okSpace s) (W : PW) (h : ConfR W x cs) : CallsX Tryz.prog 48 ⟨[.agg ⟨cs⟩]⟩ [] W fun v _ => v = .bool (muchC x) := by
  obtain ⟨sv, kv, rfl, hS, hK⟩ := h
  obtain ⟨a1, c1, rfl, _, _⟩ := hS.form
  obtain ⟨a2, c2, rfl, _, _⟩ := hK.form
  refine pureX hmix Tryz.func48 r48 (by kernel_rfl) [.agg ⟨[.slice a1 x.spaces.length c1, .slice a2 x.scopes.length c2]⟩] rfl ?_
  refine ⟨rfl, ?_⟩
  apply br_split
  · intro h1
    have h1 : (16 : Int) < x.spaces.length := h1
    refine ret_plain rfl fun _ _ => ?_
    unfold muchC; rw [decide_eq_true (show 16 < x.spaces.length by omega)]; (first | done | rfl)
  intro h1
  have h1 : ¬ (16 : Int) < x.spaces.length := h1
  refine ⟨rfl, ?_⟩
  apply br_split
  · intro h2
    have h2 : (16 : Int) < x.scopes.length := h2
    refine ret_plain rfl fun _ _ => ?_
    unfold muchC; rw [decide_eq_true (show 16 < x.scopes.length by omega)]; simp
  intro h2
  have h2 : ¬ (16 : Int) < x.scopes.length := h2
  have hW : muchC x = x.spaces.any badS := by
    unfold muchC; rw [decide_eq_false (show ¬ 16 < x.spaces.length by omega), decide_eq_false (show ¬ 16 < x.scopes.length by omega)]; (first | done | rfl)
  rw [hW]
  refine ⟨Nat, fun i => [(3, .v (.int .i64 i))], fun _ => [[.v (.slice a1 x.spaces.length c1), .v (.slice a2 x.scopes.length c2)]], fun _ => [], fun i _ => i ≤ x.spaces.length ∧ ∀ y ∈ x.spaces.take i, badS y = false, fun i => x.spaces.length - i, 0,
    all_sl ⟨rfl, trivial⟩, rfl, ole_refl _, ⟨Nat.zero_le _, by simp⟩, loopOK (fun _ => ⟨⟨trivial, rfl⟩, trivial⟩) (fun _ => rfl) (fun _ => rfl), ?_⟩
  rintro i W1 l1 ⟨hi, hI⟩ fr
  refine ⟨rfl, br_split (fun hq => ?_) (fun hq => ?_)⟩
  rotate_left
  · have hq : ¬ (i : Int) < x.spaces.length := hq
    rw [List.take_of_length_le (by omega)] at hI
    exact ret_plain rfl fun _ _ => by rw [any_no hI]
  have hq : (i : Int) < x.spaces.length := hq
  obtain ⟨pc, rfl, s, ds, hx, hcl, ⟨rv, hds, hR⟩, hall, _⟩ := hS.at SpR.mono l1 (j := i) ⟨by omega, hq⟩
  have hx : x.spaces[i]? = some s := hx
  have hsm := List.mem_of_getElem? hx
  obtain ⟨o1, o2⟩ := hok s hsm
  obtain ⟨a3, c3, rfl, _, _⟩ := hR.form
  subst hds
  have yes : badS s = true → Value.bool true = .bool (x.spaces.any badS) := fun e => by rw [any_yes hsm e]
  refine ⟨⟨by omega, hq⟩, pc, rfl, .slice a3 s.rels.length c3, (hall 1 _ rfl).o, rfl, ?_⟩
  apply br_split
  · intro h3
    have h3 : (16 : Int) < s.rels.length := h3
    exact ret_plain rfl fun _ _ => yes (by unfold badS; rw [decide_eq_true (show 16 < s.rels.length by omega)]; (first | done | rfl))
  intro h3
  have h3 : ¬ (16 : Int) < s.rels.length := h3
  have eS : badS s = s.rels.any muchD := by unfold badS; rw [decide_eq_false (show ¬ 16 < s.rels.length by omega)]; (first | done | rfl)
  rw [eS] at yes
  refine ⟨Nat, fun j => [(4, .v (.int .i64 j))], fun _ => [[.v (.slice (some pc) x.spaces.length c1), .v (.slice a2 x.scopes.length c2)]], fun _ => [], fun j _ => j ≤ s.rels.length ∧ ∀ y ∈ s.rels.take j, muchD y = false, fun j => s.rels.length - j, 0,
    all_sl ⟨rfl, trivial⟩, rfl, ole_refl _, ⟨Nat.zero_le _, by simp⟩, loopOK (fun _ => ⟨⟨trivial, rfl⟩, trivial⟩) (fun _ => rfl) (fun _ => rfl), ?_⟩
  rintro j W2 l2 ⟨hj, hJ⟩ fr2
  refine ⟨⟨by omega, hq⟩, pc, rfl, .slice a3 s.rels.length c3, ((hall 1 _ rfl).mono l2).o, rfl, ?_⟩
  apply br_split
  rotate_left
  · intro hq2
    have hq2 : ¬ (j : Int) < s.rels.length := hq2
    rw [List.take_of_length_le (by omega)] at hJ
    have hs : badS s = false := by rw [eS]; exact any_no hJ
    exact ⟨rfl, _, (i64_in ((i : Int) + 1) ⟨by omega, by omega⟩).symm, i + 1, all_sl ⟨rfl, trivial⟩, rfl, ole_refl _, ⟨by omega, take_none hx hI hs⟩, by dsimp only; omega⟩
  intro hq2
  have hq2 : (j : Int) < s.rels.length := hq2
  obtain ⟨pd, rfl, r, es, hy, hcl2, ⟨tv, nv, hes, hT, hN⟩, _, hrd2⟩ := hR.at RelR.mono l2 (j := j) ⟨by omega, hq2⟩
  have hy : s.rels[j]? = some r := hy
  have hrm := List.mem_of_getElem? hy
  have hrok := o2 r hrm
  obtain ⟨a4, c4, rfl, _, _⟩ := hT.form
  obtain ⟨a5, c5, rfl, _, _⟩ := hN.form
  subst hes
  have yes2 : muchD r = true → Value.bool true = .bool (x.spaces.any badS) := fun e => yes (any_yes hrm e)
  refine ⟨⟨by omega, hq⟩, pc, rfl, .slice (some pd) s.rels.length c3, ((hall 1 _ rfl).mono l2).o, ⟨by omega, hq2⟩, pd, rfl, [strV r.name, .slice a4 r.types.length c4, .slice a5 r.nodes.length c5], rfl, hrd2.o, rfl, ?_⟩
  apply br_split
  · intro h8
    have h8 : (8 : Int) < r.types.length := h8
    exact ret_plain rfl fun _ _ => yes2 (by unfold muchD; rw [decide_eq_true (show 8 < r.types.length by omega)]; (first | done | rfl))
  intro h8
  have h8 : ¬ (8 : Int) < r.types.length := h8
  refine ⟨rfl, ?_⟩
  apply br_split
  · intro h64
    have h64 : (64 : Int) < r.nodes.length := h64
    exact ret_plain rfl fun _ _ => yes2 (by unfold muchD; rw [decide_eq_true (show 64 < r.nodes.length by omega)]; simp)
  intro h64
  have h64 : ¬ (64 : Int) < r.nodes.length := h64
  refine call_v rfl (fun W' lw => deepd_x r.nodes hrok.1 hrok.2 _ W' (hN.mono lw)) (fun W3 v W4 l3 l4 hv => ?_)
  obtain ⟨d, hd, rfl⟩ : ∃ d, deepD r.nodes = d ∧ v = .int .i64 (d : Nat) := ⟨_, rfl, hv⟩
  have eR : muchD r = decide (16 < d) := by
    unfold muchD; rw [decide_eq_false (show ¬ 8 < r.types.length by omega), decide_eq_false (show ¬ 64 < r.nodes.length by omega), hd]; (first | done | rfl)
  refine ⟨rfl, br_split (fun h16 => ?_) (fun h16 => ?_)⟩
  · have h16 : (16 : Int) < d := h16
    exact ret_plain rfl fun _ _ => yes2 (by rw [eR, decide_eq_true (show 16 < d by omega)])
  have h16 : ¬ (16 : Int) < d := h16
  have hr : muchD r = false := by rw [eR, decide_eq_false (show ¬ 16 < d by omega)]
  exact ⟨rfl, _, (i64_in ((j : Int) + 1) ⟨by omega, by omega⟩).symm, j + 1, all_sl ⟨rfl, trivial⟩, rfl, ole_refl _, ⟨by omega, take_none hy hJ hr⟩, by dsimp only; omega⟩
end Go.Proofs.YtcgbcbdgjhnlaaaGreat

namespace Go.Proofs.YtcgbcbdgjhnlaaaGreat

theorem deepR_app : ∀ (a b : List NodeS) (ss ds : List Int), deepR ss ds (a ++ b) = match deepR ss ds a with | some (s', d') => deepR s' d' b | none => none
  | [], b, ss, ds => rfl
  | n :: a, b, ss, ds => by
    simp only [List.cons_append, deepR]
    cases stepD ss ds n with
    | none => rfl
    | some p => exact deepR_app a b _ _
/-- Nodes that are one tree, behind so many others. -/
structure Seg (a e d : Nat) (seg : List NodeS) : Prop where
  len : seg.length = e - a
  lt : a < e
  pos : 1 ≤ d
  run : ∀ ss ds : List Int, ss.length = a → ds.length = a → ∃ s' d', deepR ss ds seg = some (ss ++ s', ds ++ d') ∧ s'.length = e - a ∧ d'.length = e - a ∧ s'.getD (e - a - 1) 0 = ((e - a : Nat) : Int) ∧ d'.getD (e - a - 1) 0 = d
theorem Seg.leaf {n : NodeS} (h1 : isOp n = false) (h2 : leafN n = true) (a : Nat) : Seg a (a + 1) 1 [n] := by
  refine ⟨by simp, by omega, Nat.le_refl _, fun ss ds _ _ => ⟨[1], [1], ?_, by simp, by simp, ?_, ?_⟩⟩
  · simp only [deepR, stepD, h1, h2, if_true, Bool.false_eq_true, if_false]
  · simp
  · simp
theorem getD_app {ss t : List Int} {i : Nat} : (ss ++ t).getD (ss.length + i) 0 = t.getD i 0 := by
  rw [List.getD_eq_getElem?_getD, List.getD_eq_getElem?_getD, List.getElem?_append_right (by omega), Nat.add_sub_cancel_left]
theorem getD_app_l {ss t : List Int} {i : Nat} (h : i < ss.length) : (ss ++ t).getD i 0 = ss.getD i 0 := by
  rw [List.getD_eq_getElem?_getD, List.getD_eq_getElem?_getD, List.getElem?_append_left h]
theorem Seg.join {a b e x y : Nat} {k : Int} {s1 s2 : List NodeS} (h1 : Seg a b y s1) (h2 : Seg b e x s2) (hk : k = 4 ∨ k = 5 ∨ k = 6) : Seg a (e + 1) ((if x < y then y else x) + 1) (s1 ++ s2 ++ [⟨k, [], [], (b : Int) - 1, (e : Int) - 1⟩]) := by
  have q1 := h1.lt
  have q2 := h2.lt
  have q3 := h1.pos
  have q4 := h2.pos
  refine ⟨by simp only [List.length_append, List.length_singleton, h1.len, h2.len]; omega, by omega, by omega, fun ss ds hs hd => ?_⟩
  obtain ⟨u1, v1, r1, r2, r3, r4, r5⟩ := h1.run ss ds hs hd
  obtain ⟨u2, v2, p1, p2, p3, p4, p5⟩ := h2.run (ss ++ u1) (ds ++ v1) (by rw [List.length_append]; omega) (by rw [List.length_append]; omega)
  have ls : (ss ++ u1 ++ u2).length = e := by simp only [List.length_append]; omega
  have ld : (ds ++ v1 ++ v2).length = e := by simp only [List.length_append]; omega
  have g1 : (ss ++ u1 ++ u2).getD (b - 1) 0 = ((b - a : Nat) : Int) := by
    rw [getD_app_l (by simp only [List.length_append]; omega), show b - 1 = ss.length + (b - a - 1) by omega, getD_app, r4]
  have g2 : (ss ++ u1 ++ u2).getD (e - 1) 0 = ((e - b : Nat) : Int) := by
    rw [show e - 1 = (ss ++ u1).length + (e - b - 1) by simp only [List.length_append]; omega, getD_app, p4]
  have g3 : (ds ++ v1 ++ v2).getD (b - 1) 0 = y := by
    rw [getD_app_l (by simp only [List.length_append]; omega), show b - 1 = ds.length + (b - a - 1) by omega, getD_app, r5]
  have g4 : (ds ++ v1 ++ v2).getD (e - 1) 0 = x := by
    rw [show e - 1 = (ds ++ v1).length + (e - b - 1) by simp only [List.length_append]; omega, getD_app, p5]
  have hop : isOp (⟨k, [], [], (b : Int) - 1, (e : Int) - 1⟩ : NodeS) = true := by
    unfold isOp
    rcases hk with rfl | rfl | rfl <;> rfl
  have t1 : ((b : Int) - 1).toNat = b - 1 := by omega
  have t2 : ((e : Int) - 1).toNat = e - 1 := by omega
  refine ⟨u1 ++ u2 ++ [((e + 1 - a : Nat) : Int)], v1 ++ v2 ++ [(((if x < y then y else x) + 1 : Nat) : Int)], ?_, by simp only [List.length_append, List.length_singleton]; omega, by simp only [List.length_append, List.length_singleton]; omega, ?_, ?_⟩
  · rw [deepR_app, deepR_app, r1]
    dsimp only
    rw [p1]
    dsimp only
    have hst : stepD (ss ++ u1 ++ u2) (ds ++ v1 ++ v2) ⟨k, [], [], (b : Int) - 1, (e : Int) - 1⟩ = some (((e + 1 - a : Nat) : Int), (((if x < y then y else x) + 1 : Nat) : Int)) := by
      unfold stepD
      rw [hop]
      dsimp only
      rw [ls, g2, t1, t2, g1, g2, g3, g4, if_pos rfl, if_pos ⟨rfl, rfl, rfl, by omega, by omega, by omega⟩]
      congr 1
      refine Prod.ext ?_ ?_
      · show ((b - a : Nat) : Int) + ((e - b : Nat) : Int) + 1 = ((e + 1 - a : Nat) : Int); omega
      · show (if (y : Int) ≤ x then (x : Int) else y) + 1 = (((if x < y then y else x) + 1 : Nat) : Int)
        split <;> split <;> omega
    simp only [deepR, hst]
    simp only [List.append_assoc]
  · have : e + 1 - a - 1 = (u1 ++ u2).length + 0 := by simp only [List.length_append]; omega
    rw [this, getD_app]; (first | done | rfl)
  · have : e + 1 - a - 1 = (v1 ++ v2).length + 0 := by simp only [List.length_append]; omega
    rw [this, getD_app]; (first | done | rfl)
theorem tree_seg {l : List NodeS} : ∀ (f e a d : Nat), treeD l f e = some (a, d) → a < e ∧ e ≤ l.length ∧ Seg a e d ((l.drop a).take (e - a))
  | 0, e, a, d, h => by cases h
  | f + 1, 0, a, d, h => by cases h
  | f + 1, e + 1, a, d, h => by
    simp only [treeD] at h
    split at h
    · cases h
    · rename_i n hn
      have hl := (List.getElem?_eq_some_iff.1 hn).1
      split at h
      · rename_i hop
        split at h
        · cases h
        · rename_i b x hb
          obtain ⟨i1, i2, hs2⟩ := tree_seg f _ _ _ hb
          split at h
          · cases h
          · rename_i a' y ha
            obtain ⟨j1, j2, hs1⟩ := tree_seg f _ _ _ ha
            split at h
            · rename_i hc
              simp only [Option.some.injEq, Prod.mk.injEq] at h
              obtain ⟨rfl, rfl⟩ := h
              refine ⟨by omega, by omega, ?_⟩
              have hk : n.kind = 4 ∨ n.kind = 5 ∨ n.kind = 6 := by
                unfold isOp at hop
                simp only [Bool.or_eq_true, decide_eq_true_eq] at hop
                omega
              have hj := Seg.join hs1 hs2 hk
              have en : n = ⟨n.kind, [], [], (b : Int) - 1, (e : Int) - 1⟩ := by
                obtain ⟨k, r, t, na, nb⟩ := n
                obtain ⟨h1, h2, h3, h4⟩ := hc
                dsimp only at h1 h2 h3 h4
                rw [h1, h2, h3, h4]
              rw [← en] at hj
              have es : (l.drop a').take (e + 1 - a') = (l.drop a').take (b - a') ++ (l.drop b).take (e - b) ++ [n] := by
                have e1 : (l.drop a').take (e - a') = (l.drop a').take (b - a') ++ (l.drop b).take (e - b) := by
                  rw [show e - a' = (b - a') + (e - b) by omega, List.take_add, List.drop_drop, show a' + (b - a') = b by omega]
                rw [show e + 1 - a' = (e - a') + 1 by omega, List.take_add_one, e1, List.getElem?_drop, show a' + (e - a') = e by omega, hn]; (first | done | rfl)
              rw [es]; exact hj
            · cases h
      · rename_i hop
        split at h
        · rename_i hleaf
          simp only [Option.some.injEq, Prod.mk.injEq] at h
          obtain ⟨rfl, rfl⟩ := h
          refine ⟨by omega, by omega, ?_⟩
          have es : (l.drop e).take (e + 1 - e) = [n] := by
            rw [show e + 1 - e = 0 + 1 by omega, List.take_add_one, List.getElem?_drop, Nat.add_zero, hn]; (first | done | rfl)
          rw [es]
          exact Seg.leaf (by simpa using hop) hleaf e
        · cases h
theorem treeD_app {l r : List NodeS} : ∀ (f e : Nat), e ≤ l.length → treeD (l ++ r) f e = treeD l f e
  | 0, e, _ => rfl
  | f + 1, 0, _ => rfl
  | f + 1, e + 1, h => by
    simp only [treeD]
    rw [List.getElem?_append_left (show e < l.length by omega), treeD_app f e (by omega)]
    cases hn : l[e]? with
    | none => rfl
    | some n =>
      dsimp only
      cases hb : treeD l f e with
      | none => rfl
      | some p =>
        obtain ⟨b, x⟩ := p
        obtain ⟨i1, i2, _⟩ := tree_seg f _ _ _ hb
        dsimp only
        rw [treeD_app f b (by omega)]
structure DeepOK (l : List NodeS) (ss ds : List Int) : Prop where
  n : ss.length = l.length
  m : ds.length = l.length
  t : ∀ e, e < l.length → ∃ s d : Nat, ss.getD e 0 = s ∧ ds.getD e 0 = d ∧ s ≤ e + 1 ∧ 1 ≤ s ∧ ∀ f, e + 1 ≤ f → treeD l f (e + 1) = some (e + 1 - s, d)
theorem deepR_ok : ∀ (r l : List NodeS) (ss ds ss' ds' : List Int), DeepOK l ss ds → deepR ss ds r = some (ss', ds') → DeepOK (l ++ r) ss' ds'
  | [], l, ss, ds, ss', ds', h, e => by
    simp only [deepR, Option.some.injEq, Prod.mk.injEq] at e
    obtain ⟨rfl, rfl⟩ := e
    rw [List.append_nil]; exact h
  | n :: r, l, ss, ds, ss', ds', h, e => by
    simp only [deepR] at e
    split at e
    · rename_i x y hst
      have key : DeepOK (l ++ [n]) (ss ++ [x]) (ds ++ [y]) := by
        refine ⟨by simp [h.n], by simp [h.m], fun i hi => ?_⟩
        rw [List.length_append, List.length_singleton] at hi
        by_cases hil : i < l.length
        · obtain ⟨s, d, h1, h2, h3, h4, h5⟩ := h.t i hil
          refine ⟨s, d, by rw [getD_app_l (by rw [h.n]; exact hil)]; exact h1, by rw [getD_app_l (by rw [h.m]; exact hil)]; exact h2, h3, h4, fun f hf => ?_⟩
          rw [treeD_app f (i + 1) (by omega)]; exact h5 f hf
        · obtain rfl : i = l.length := by omega
          have gx : (ss ++ [x]).getD l.length 0 = x := by rw [← h.n, show ss.length = ss.length + 0 from rfl, getD_app]; (first | done | rfl)
          have gy : (ds ++ [y]).getD l.length 0 = y := by rw [← h.m, show ds.length = ds.length + 0 from rfl, getD_app]; (first | done | rfl)
          rw [gx, gy]
          have hn : (l ++ [n])[l.length]? = some n := by simp
          unfold stepD at hst
          split at hst
          · rename_i hop
            split at hst
            · rename_i hc
              obtain ⟨c1, c2, c3, c4, c5, c6⟩ := hc
              simp only [Option.some.injEq, Prod.mk.injEq] at hst
              obtain ⟨rfl, rfl⟩ := hst
              rw [h.n] at c3 c5
              have hl1 : l.length - 1 < l.length := by omega
              obtain ⟨s2, d2, a1, a2, a3, a4, a5⟩ := h.t (l.length - 1) hl1
              rw [a1] at c5
              have hna : n.a.toNat = l.length - 1 - s2 := by omega
              obtain ⟨s1, d1, b1, b2, b3, b4, b5⟩ := h.t (l.length - 1 - s2) (by omega)
              have hnb : n.b.toNat = l.length - 1 := by omega
              rw [hna, hnb, a1, a2, b1, b2]
              refine ⟨s1 + s2 + 1, (if d2 < d1 then d1 else d2) + 1, by omega, by split <;> split <;> omega, by omega, by omega, fun f hf => ?_⟩
              obtain ⟨f, rfl⟩ : ∃ f', f = f' + 1 := ⟨f - 1, by omega⟩
              simp only [treeD, hn, hop, if_true]
              rw [treeD_app f l.length (Nat.le_refl _)]
              have t2 := a5 f (by omega)
              rw [show l.length - 1 + 1 = l.length by omega] at t2
              rw [t2]
              dsimp only
              have t1 := b5 f (by omega)
              rw [show l.length - 1 - s2 + 1 = l.length - s2 by omega] at t1
              rw [treeD_app f (l.length - s2) (by omega), t1]
              dsimp only
              rw [if_pos ⟨by omega, by omega, c1, c2⟩]
              congr 2
              omega
            · cases hst
          · rename_i hop
            split at hst
            · rename_i hleaf
              simp only [Option.some.injEq, Prod.mk.injEq] at hst
              obtain ⟨rfl, rfl⟩ := hst
              refine ⟨1, 1, rfl, rfl, by omega, by omega, fun f hf => ?_⟩
              obtain ⟨f, rfl⟩ : ∃ f', f = f' + 1 := ⟨f - 1, by omega⟩
              simp only [treeD, hn]
              rw [if_neg hop, if_pos hleaf]; (first | done | rfl)
            · cases hst
      have := deepR_ok r (l ++ [n]) _ _ _ _ key e
      rw [List.append_assoc] at this
      exact this
    · cases e
theorem deep_is (l : List NodeS) : deepN l = (deepD l : Int) := by
  have h0 : DeepOK [] [] [] := ⟨rfl, rfl, fun e h => by cases h⟩
  cases hr : deepR [] [] l with
  | none =>
    have e1 : deepN l = 0 := by unfold deepN; rw [hr]
    rw [e1]
    unfold deepD
    split
    · rename_i d ht
      obtain ⟨_, _, hs⟩ := tree_seg _ _ _ _ ht
      obtain ⟨s', d', h1, _⟩ := hs.run [] [] rfl rfl
      rw [List.drop_zero, Nat.sub_zero, List.take_length, hr] at h1
      cases h1
    · rfl
  | some p =>
    obtain ⟨ss, ds⟩ := p
    have hok := deepR_ok l [] [] [] ss ds h0 hr
    rw [List.nil_append] at hok
    unfold deepN
    rw [hr]
    dsimp only
    cases hl : l with
    | nil => rfl
    | cons n r =>
      rw [← hl]
      have hlen : 1 ≤ l.length := by rw [hl]; simp
      obtain ⟨s, d, h1, h2, h3, h4, h5⟩ := hok.t (l.length - 1) (by omega)
      have ht := h5 l.length (by omega)
      rw [show l.length - 1 + 1 = l.length by omega] at ht h3
      rw [h1, h2]
      unfold deepD
      rw [ht]
      by_cases hs : s = l.length
      · rw [if_neg, hs, Nat.sub_self]
        · rfl
        · rintro (h | h)
          · rw [h] at hlen; cases hlen
          · exact h (by omega)
      · rw [if_pos (.inr (by omega))]
        obtain ⟨z, hz⟩ : ∃ z, l.length - s = z + 1 := ⟨l.length - s - 1, by omega⟩
        rw [hz]; (first | done | rfl)
end Go.Proofs.YtcgbcbdgjhnlaaaGreat

namespace Go.Proofs.YtcgbcbdgjhnlaaaGreat

/-- An expression's nodes behind others: one tree. -/
def SegG (ns ns' : List NodeS) : Prop := ∃ seg d, ns' = ns ++ seg ∧ Seg ns.length ns'.length d seg
theorem SegG.leaf {n : NodeS} (h1 : isOp n = false) (h2 : leafN n = true) (ns : List NodeS) : SegG ns (ns ++ [n]) := ⟨[n], 1, rfl, by rw [List.length_append]; exact Seg.leaf h1 h2 _⟩
theorem SegG.join {ns n1 n2 : List NodeS} (h1 : SegG ns n1) (h2 : SegG n1 n2) {k : Nat} (hk : k = 4 ∨ k = 5 ∨ k = 6) : SegG ns (joinN k n1 n2) := by
  obtain ⟨s1, y, rfl, g1⟩ := h1
  obtain ⟨s2, x, e2, g2⟩ := h2
  refine ⟨s1 ++ s2 ++ [⟨k, [], [], ((ns ++ s1).length : Int) - 1, (n2.length : Int) - 1⟩], (if x < y then y else x) + 1, ?_, ?_⟩
  · unfold joinN
    rw [e2]; simp only [List.append_assoc]
  · rw [joinN_len]
    exact Seg.join g1 g2 (by omega)
theorem much_is (r : RelS) : muchN r = muchD r := by
  unfold muchN muchD
  rw [deep_is]
  congr 2
  rw [decide_eq_decide]; omega
theorem within_is (c : ConfS) : withinN c = !muchC c := by
  unfold withinN muchC
  have : (c.spaces.all fewS) = !(c.spaces.any fun s => decide (16 < s.rels.length) || s.rels.any muchD) := by
    rw [← Bool.not_not (c.spaces.all fewS), ← any_not]
    congr 2
    funext s
    unfold fewS
    rw [Bool.not_not, show muchN = muchD from funext much_is]
  rw [this, Bool.not_or, Bool.not_or]
theorem ruleP_good (s : List UInt8) : okC (ruleP s).1 := by
  have hno : okC noConf := ⟨Nat.zero_le _, Nat.zero_le _, fun s hs => (by cases hs), fun s hs => (by cases hs)⟩
  obtain ⟨b1, b2⟩ := lexA_b s
  unfold ruleP
  split
  · split
    · exact hno
    · split
      · exact hno
      · split
        · exact conf_good ⟨(lexA s).1, false⟩ b2 b1
        · exact hno
  · exact hno
end Go.Proofs.YtcgbcbdgjhnlaaaGreat

namespace Go.Proofs.YtcgbcbdgjhnlaaaGreat
open Go.RowKit

theorem eqNode : EqOK Tryz.prog 100 [100] := ⟨Tryz.eqGuardType100, fun s hs => by rw [List.mem_singleton.1 hs]; exact Tryz.stoodInHeld100⟩
theorem eqScope : EqOK Tryz.prog 78 [78, 76] := ⟨Tryz.eqGuardType78, fun s hs => by
  simp only [List.mem_cons, List.not_mem_nil, or_false] at hs
  rcases hs with rfl | rfl
  · exact Tryz.stoodInHeld78
  · exact Tryz.stoodInHeld76⟩
set_option maxHeartbeats 4000000 in
theorem samerel_x (r : RelS) (hl : r.types.length ≤ 1000000 ∧ r.nodes.length ≤ 1000000) (cs ds : List Value) (W : PW) (h : RelR W r cs) (h' : RelR W r ds) : CallsX Tryz.prog 25 ⟨[.agg ⟨cs⟩, .agg ⟨ds⟩]⟩ [] W fun v _ => v = .bool true := by
  obtain ⟨tv, nv, rfl, hT, hN⟩ := h
  obtain ⟨tv', nv', rfl, hT', hN'⟩ := h'
  obtain ⟨l1, l2⟩ := hl
  obtain ⟨a1, c1, rfl, _, _⟩ := hT.form
  obtain ⟨a2, c2, rfl, _, _⟩ := hN.form
  obtain ⟨b1, d1, rfl, _, _⟩ := hT'.form
  obtain ⟨b2, d2, rfl, _, _⟩ := hN'.form
  refine pureX hmix Tryz.func25 r25 (by kernel_rfl) [.agg ⟨[strV r.name, .slice a1 r.types.length c1, .slice a2 r.nodes.length c2]⟩, .agg ⟨[strV r.name, .slice b1 r.types.length d1, .slice b2 r.nodes.length d2]⟩] rfl ?_
  refine br_nsplit (fun hn => absurd rfl hn) (fun _ => ⟨rfl, ?_⟩)
  apply br_nsplit (fun hn => absurd rfl hn)
  intro _
  refine ⟨rfl, ?_⟩
  apply br_nsplit (fun hn => absurd rfl hn)
  intro _
  refine ⟨Nat, fun i => [(5, .v (.int .i64 i))], fun _ => [[.v (strV r.name), .v (.slice a1 r.types.length c1), .v (.slice a2 r.nodes.length c2)], [.v (strV r.name), .v (.slice b1 r.types.length d1), .v (.slice b2 r.nodes.length d2)]], fun _ => [], fun i _ => i ≤ r.types.length, fun i => r.types.length - i, 0,
    all_sl ⟨rfl, trivial⟩, rfl, ole_refl _, Nat.zero_le _, loopOK (fun _ => ⟨⟨trivial, rfl⟩, trivial⟩) (fun _ => rfl) (fun _ => rfl), ?_⟩
  intro i W1 w1 hi fr
  refine ⟨rfl, br_split (fun hq => ?_) (fun hq => ?_)⟩
  · have hq : (i : Int) < r.types.length := hq
    obtain ⟨p1, rfl, x, hx, _, _, hr1⟩ := hT.at (sz := 2) (fun _ => rfl) w1 (j := i) ⟨by omega, hq⟩
    obtain ⟨p2, rfl, y, hy, _, _, hr2⟩ := hT'.at (sz := 2) (fun _ => rfl) w1 (j := i) ⟨by omega, hq⟩
    obtain rfl : x = y := Option.some.inj (hx.symm.trans hy)
    refine ⟨⟨by omega, hq⟩, p1, rfl, typC x, rfl, hr1.o, ⟨by omega, hq⟩, p2, rfl, typC x, rfl, hr2.o, eqTyp, ?_⟩
    refine br_f (by simp) ?_
    exact ⟨rfl, _, (i64_in ((i : Int) + 1) ⟨by omega, by omega⟩).symm, i + 1, all_sl ⟨rfl, trivial⟩, rfl, ole_refl _, by omega, by dsimp only; omega⟩
  refine ⟨Nat, fun i => [(6, .v (.int .i64 i))], fun _ => [[.v (strV r.name), .v (.slice a1 r.types.length c1), .v (.slice a2 r.nodes.length c2)], [.v (strV r.name), .v (.slice b1 r.types.length d1), .v (.slice b2 r.nodes.length d2)]], fun _ => [], fun i _ => i ≤ r.nodes.length, fun i => r.nodes.length - i, 0,
    all_sl ⟨rfl, trivial⟩, rfl, ole_refl _, Nat.zero_le _, loopOK (fun _ => ⟨⟨trivial, rfl⟩, trivial⟩) (fun _ => rfl) (fun _ => rfl), ?_⟩
  intro j W2 w2 hj fr2
  refine ⟨rfl, br_split (fun hq => ?_) (fun hq => ?_)⟩
  · have hq : (j : Int) < r.nodes.length := hq
    obtain ⟨p1, rfl, x, hx, _, _, hr1⟩ := hN.at (sz := 5) (fun _ => rfl) (w1.trans w2) (j := j) ⟨by omega, hq⟩
    obtain ⟨p2, rfl, y, hy, _, _, hr2⟩ := hN'.at (sz := 5) (fun _ => rfl) (w1.trans w2) (j := j) ⟨by omega, hq⟩
    obtain rfl : x = y := Option.some.inj (hx.symm.trans hy)
    refine ⟨⟨by omega, hq⟩, p1, rfl, nodeC x, rfl, hr1.o, ⟨by omega, hq⟩, p2, rfl, nodeC x, rfl, hr2.o, eqNode, ?_⟩
    refine br_f (by simp) ?_
    exact ⟨rfl, _, (i64_in ((j : Int) + 1) ⟨by omega, by omega⟩).symm, j + 1, all_sl ⟨rfl, trivial⟩, rfl, ole_refl _, by omega, by dsimp only; omega⟩
  exact ret_plain rfl fun _ _ => rfl
set_option maxHeartbeats 4000000 in
theorem same_x (x : ConfS) (hok : okCB x) (cs ds : List Value) (W : PW) (h : ConfR W x cs) (h' : ConfR W x ds) : CallsX Tryz.prog 13 ⟨[.agg ⟨cs⟩, .agg ⟨ds⟩]⟩ [] W fun v _ => v = .bool true := by
  obtain ⟨sv, kv, rfl, hS, hK⟩ := h
  obtain ⟨sv', kv', rfl, hS', hK'⟩ := h'
  have hn := hok.n
  have hm := hok.m
  obtain ⟨a1, c1, rfl, _, _⟩ := hS.form
  obtain ⟨a2, c2, rfl, _, _⟩ := hK.form
  obtain ⟨b1, d1, rfl, _, _⟩ := hS'.form
  obtain ⟨b2, d2, rfl, _, _⟩ := hK'.form
  refine pureX hmix Tryz.func13 r13 (by kernel_rfl) [.agg ⟨[.slice a1 x.spaces.length c1, .slice a2 x.scopes.length c2]⟩, .agg ⟨[.slice b1 x.spaces.length d1, .slice b2 x.scopes.length d2]⟩] rfl ?_
  refine ⟨rfl, br_nsplit (fun hn => absurd rfl hn) (fun _ => ⟨rfl, ?_⟩)⟩
  apply br_nsplit (fun hn => absurd rfl hn)
  intro _
  refine ⟨Nat, fun i => [(5, .v (.int .i64 i))], fun _ => [[.v (.slice a1 x.spaces.length c1), .v (.slice a2 x.scopes.length c2)], [.v (.slice b1 x.spaces.length d1), .v (.slice b2 x.scopes.length d2)]], fun _ => [], fun i _ => i ≤ x.spaces.length, fun i => x.spaces.length - i, 0,
    all_sl ⟨rfl, trivial⟩, rfl, ole_refl _, Nat.zero_le _, loopOK (fun _ => ⟨⟨trivial, rfl⟩, trivial⟩) (fun _ => rfl) (fun _ => rfl), ?_⟩
  intro i W1 w1 hi fr
  refine ⟨rfl, br_split (fun hq => ?_) (fun hq => ?_)⟩
  · have hq : (i : Int) < x.spaces.length := hq
    obtain ⟨p1, rfl, s, es, hx, _, ⟨rv, hes, hR⟩, hr1, _⟩ := hS.at SpR.mono w1 (j := i) ⟨by omega, hq⟩
    obtain ⟨p2, rfl, s', es', hy, _, ⟨rv', hes', hR'⟩, hr2, _⟩ := hS'.at SpR.mono w1 (j := i) ⟨by omega, hq⟩
    obtain rfl : s = s' := Option.some.inj (hx.symm.trans hy)
    have hx : x.spaces[i]? = some s := hx
    have hsok := hok.sp s (List.mem_of_getElem? hx)
    have hrn := hsok.n
    obtain ⟨a3, c3, rfl, _, _⟩ := hR.form
    obtain ⟨b3, d3, rfl, _, _⟩ := hR'.form
    subst hes hes'
    refine ⟨⟨by omega, hq⟩, p1, rfl, strV s.name, (hr1 0 _ rfl).o, ⟨by omega, hq⟩, p2, rfl, strV s.name, (hr2 0 _ rfl).o, br_nsplit (fun hn => absurd rfl hn) (fun _ => ?_)⟩
    refine ⟨⟨by omega, hq⟩, p1, rfl, .slice a3 s.rels.length c3, (hr1 1 _ rfl).o, ⟨by omega, hq⟩, p2, rfl, .slice b3 s.rels.length d3, (hr2 1 _ rfl).o, rfl, ?_⟩
    apply br_nsplit (fun hn => absurd rfl hn)
    intro _
    refine ⟨Nat, fun j => [(6, .v (.int .i64 j))], fun _ => [[.v (.slice (some p1) x.spaces.length c1), .v (.slice a2 x.scopes.length c2)], [.v (.slice (some p2) x.spaces.length d1), .v (.slice b2 x.scopes.length d2)]], fun _ => [], fun j _ => j ≤ s.rels.length, fun j => s.rels.length - j, 0,
      all_sl ⟨rfl, trivial⟩, rfl, ole_refl _, Nat.zero_le _, loopOK (fun _ => ⟨⟨trivial, rfl⟩, trivial⟩) (fun _ => rfl) (fun _ => rfl), ?_⟩
    intro j W2 w2 hj fr2
    refine ⟨⟨by omega, hq⟩, p1, rfl, .slice a3 s.rels.length c3, ((hr1 1 _ rfl).mono w2).o, rfl, ?_⟩
    apply br_split
    · intro hq2
      have hq2 : (j : Int) < s.rels.length := hq2
      obtain ⟨p3, rfl, r, fs, hx3, _, hR3, hr3, hrd3⟩ := hR.at RelR.mono w2 (j := j) ⟨by omega, hq2⟩
      obtain ⟨p4, rfl, r', fs', hy3, _, hR4, hr4, hrd4⟩ := hR'.at RelR.mono w2 (j := j) ⟨by omega, hq2⟩
      obtain rfl : r = r' := Option.some.inj (hx3.symm.trans hy3)
      have hx3 : s.rels[j]? = some r := hx3
      have hrok := hsok.rels r (List.mem_of_getElem? hx3)
      have hfs : fs.length = 3 := by obtain ⟨_, _, rfl, _⟩ := hR3; (first | done | rfl)
      have hfs' : fs'.length = 3 := by obtain ⟨_, _, rfl, _⟩ := hR4; (first | done | rfl)
      refine ⟨⟨by omega, hq⟩, p1, rfl, .slice (some p3) s.rels.length c3, ((hr1 1 _ rfl).mono w2).o, ⟨by omega, hq2⟩, p3, rfl, fs, hfs, hrd3.o,
        ⟨by omega, hq⟩, p2, rfl, .slice (some p4) s.rels.length d3, ((hr2 1 _ rfl).mono w2).o, ⟨by omega, hq2⟩, p4, rfl, fs', hfs', hrd4.o, ?_⟩
      refine call_v rfl (fun W' lw => samerel_x r ⟨hrok.tn, by have := hrok.rel.1; omega⟩ fs fs' W' (RelR.mono _ _ _ _ lw hR3) (RelR.mono _ _ _ _ lw hR4)) (fun W3 v W4 _ _ hv => ?_)
      subst hv
      exact ⟨rfl, _, (i64_in ((j : Int) + 1) ⟨by omega, by omega⟩).symm, j + 1, all_sl ⟨rfl, trivial⟩, rfl, ole_refl _, by omega, by dsimp only; omega⟩
    · intro _
      exact ⟨rfl, _, (i64_in ((i : Int) + 1) ⟨by omega, by omega⟩).symm, i + 1, all_sl ⟨rfl, trivial⟩, rfl, ole_refl _, by omega, by dsimp only; omega⟩
  refine ⟨Nat, fun i => [(7, .v (.int .i64 i))], fun _ => [[.v (.slice a1 x.spaces.length c1), .v (.slice a2 x.scopes.length c2)], [.v (.slice b1 x.spaces.length d1), .v (.slice b2 x.scopes.length d2)]], fun _ => [], fun i _ => i ≤ x.scopes.length, fun i => x.scopes.length - i, 0,
    all_sl ⟨rfl, trivial⟩, rfl, ole_refl _, Nat.zero_le _, loopOK (fun _ => ⟨⟨trivial, rfl⟩, trivial⟩) (fun _ => rfl) (fun _ => rfl), ?_⟩
  intro j W2 w2 hj fr2
  refine ⟨rfl, br_split (fun hq => ?_) (fun hq => ?_)⟩
  · have hq : (j : Int) < x.scopes.length := hq
    obtain ⟨p1, rfl, s, hx, _, _, hr1⟩ := hK.at (sz := 4) (fun _ => rfl) (w1.trans w2) (j := j) ⟨by omega, hq⟩
    obtain ⟨p2, rfl, s', hy, _, _, hr2⟩ := hK'.at (sz := 4) (fun _ => rfl) (w1.trans w2) (j := j) ⟨by omega, hq⟩
    obtain rfl : s = s' := Option.some.inj (hx.symm.trans hy)
    refine ⟨⟨by omega, hq⟩, p1, rfl, scopeC s, rfl, hr1.o, ⟨by omega, hq⟩, p2, rfl, scopeC s, rfl, hr2.o, eqScope, ?_⟩
    refine br_f (by simp) ?_
    exact ⟨rfl, _, (i64_in ((j : Int) + 1) ⟨by omega, by omega⟩).symm, j + 1, all_sl ⟨rfl, trivial⟩, rfl, ole_refl _, by omega, by dsimp only; omega⟩
  exact ret_plain rfl fun _ _ => rfl
end Go.Proofs.YtcgbcbdgjhnlaaaGreat

namespace Go.Proofs.YtcgbcbdgjhnlaaaGreat
open Go.RowKit

end Go.Proofs.YtcgbcbdgjhnlaaaGreat
