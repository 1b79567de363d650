/- Layer 16 (rule): the program's tests, Parse and Right, walked. -/
import Derived.Test.YtcgbcbdgjhnlaaaGreatXPF
import Derived.Test.YtcgbcbdgjhnlaaaGreatXCodeZ
import Derived.Test.YtcgbcbdgjhnlaaaGreatXPD
namespace Go.Proofs.YtcgbcbdgjhnlaaaGreat
open Go.RowKit

def openN (o : Nat) (x : Tok) : Nat := if x.k = 3 ∧ x.t = [40] then o + 1 else if x.k = 3 ∧ x.t = [41] then o - 1 else o
def nestL : Nat → List Tok → Bool
  | _, [] => false
  | o, x :: r => if 16 < openN o x then true else nestL (openN o x) r
set_option maxHeartbeats 2000000 in
theorem nested_x (N : Nat) (toks : List Tok) (u : Value) (hl : toks.length ≤ 16384) (W : PW) (h : RP (tokC N) W u toks) : CallsX Tryz.prog 52 ⟨[u]⟩ [] W fun v _ => v = .bool (nestL 0 toks) := by
  obtain ⟨A, c, rfl, _, _⟩ := h.form
  refine pureX hmix Tryz.func52 r52 (by kernel_rfl) [.slice A toks.length c] rfl ?_
  refine ⟨Nat × Nat, fun t => [(3, .v (.int .i64 t.2)), (8, .v (.int .i64 t.1))], fun _ => [], fun _ => [],
    fun t _ => t.1 ≤ toks.length ∧ t.2 ≤ 16 ∧ nestL 0 toks = nestL t.2 (toks.drop t.1), fun t => toks.length - t.1, (0, 0),
    all_sl ⟨rfl, rfl, trivial⟩, rfl, ole_refl _, ⟨Nat.zero_le _, by decide, rfl⟩, loopOK (fun _ => ⟨⟨trivial, rfl⟩, ⟨trivial, rfl⟩, trivial⟩) (fun _ => rfl) (fun _ => rfl), ?_⟩
  rintro ⟨i, o⟩ W1 l1 ⟨hi, ho, hres⟩ fr
  dsimp only at hi ho hres
  refine ⟨rfl, br_split (fun hq => ?_) (fun hq => ?_)⟩
  rotate_left
  · have hq : ¬ (i : Int) < toks.length := hq
    refine ret_plain rfl fun _ _ => ?_
    rw [hres, List.drop_eq_nil_of_le (by omega)]; (first | done | rfl)
  have hq : (i : Int) < toks.length := hq
  have hil : i < toks.length := by omega
  obtain ⟨pc, rfl, x, hx, _, _, hrc⟩ := h.at (sz := 3) (tokC_len _) l1 (j := i) ⟨by omega, hq⟩
  have hx : toks[i]? = some x := hx
  have hd : toks.drop i = x :: toks.drop (i + 1) := by
    rw [List.drop_eq_getElem_cons hil]
    rw [List.getElem?_eq_getElem hil] at hx
    rw [Option.some.inj hx]
  rw [hd] at hres
  have stop : ∀ o', openN o x = o' → 16 < o' → nestL 0 toks = true := fun o' e h => by
    rw [hres]; simp only [nestL]; rw [e, if_pos h]
  have go : ∀ o', openN o x = o' → ¬ 16 < o' → nestL 0 toks = nestL o' (toks.drop (i + 1)) := fun o' e h => by
    rw [hres]; simp only [nestL]; rw [e, if_neg h]
  have wi : IntKind.i64.wrap ((i : Int) + 1) = (i : Int) + 1 := i64_in _ ⟨by omega, by omega⟩
  refine ⟨⟨by omega, hq⟩, pc, rfl, tokC N x, rfl, hrc.o, rfl, br_split (fun hk => ?_) (fun hk => ?_)⟩
  · have hk : (x.k : Int) = 3 := hk
    have hk3 : x.k = 3 := by omega
    apply br_split
    · intro h40
      have h40 : x.t = [40] := h40
      have e : openN o x = o + 1 := by unfold openN; rw [if_pos ⟨hk3, h40⟩]
      refine ⟨rfl, _, (i64_in ((o : Int) + 1) ⟨by omega, by omega⟩).symm, rfl, br_split (fun hg => ?_) (fun hg => ?_)⟩
      · have hg : (16 : Int) < (o : Int) + 1 := hg
        exact ret_plain rfl fun _ _ => by rw [stop _ e (by omega)]
      · have hg : ¬ (16 : Int) < (o : Int) + 1 := hg
        exact ⟨rfl, _, wi.symm, (i + 1, o + 1), all_sl ⟨rfl, rfl, trivial⟩, rfl, ole_refl _, ⟨hil, by dsimp only; omega, go _ e (by omega)⟩, by dsimp only; omega⟩
    intro h40
    have h40 : ¬ x.t = [40] := h40
    refine ⟨rfl, ?_⟩
    apply br_split
    rotate_left
    · intro h; exact absurd hk h
    intro _
    apply br_split
    · intro h41
      have h41 : x.t = [41] := h41
      have e : openN o x = o - 1 := by unfold openN; rw [if_neg (fun h => h40 h.2), if_pos ⟨hk3, h41⟩]
      have e2 : (if (o : Int) - 1 ≤ 0 then (0 : Int) else (o : Int) - 1) = ((o - 1 : Nat) : Int) := by split <;> omega
      refine ⟨rfl, _, (i64_in ((o : Int) - 1) ⟨by omega, by omega⟩).symm, rfl, rfl, br_split (fun hg => ?_) (fun hg => ?_)⟩
      · have hg : (16 : Int) < (if (o : Int) - 1 ≤ 0 then (0 : Int) else (o : Int) - 1) := hg
        rw [e2] at hg
        exact ret_plain rfl fun _ _ => by rw [stop _ e (by omega)]
      · have hg : ¬ (16 : Int) < (if (o : Int) - 1 ≤ 0 then (0 : Int) else (o : Int) - 1) := hg
        rw [e2] at hg
        exact ⟨rfl, _, wi.symm, (i + 1, o - 1), all_sl ⟨congrArg (fun z => GV.v (.int .i64 z)) e2, rfl, trivial⟩, rfl, ole_refl _, ⟨hil, by dsimp only; omega, go _ e (by omega)⟩, by dsimp only; omega⟩
    · intro h41
      have h41 : ¬ x.t = [41] := h41
      have e : openN o x = o := by unfold openN; rw [if_neg (fun h => h40 h.2), if_neg (fun h => h41 h.2)]
      refine ⟨rfl, br_split (fun hg => ?_) (fun hg => ?_)⟩
      · have hg : (16 : Int) < (o : Int) := hg
        omega
      · exact ⟨rfl, _, wi.symm, (i + 1, o), all_sl ⟨rfl, rfl, trivial⟩, rfl, ole_refl _, ⟨hil, ho, go _ e (by omega)⟩, by dsimp only; omega⟩
  · have hk : ¬ (x.k : Int) = 3 := hk
    have e : openN o x = o := by unfold openN; rw [if_neg (fun h => hk (by omega)), if_neg (fun h => hk (by omega))]
    refine ⟨rfl, ?_⟩
    apply br_split
    · intro h; exact absurd h hk
    intro _
    refine ⟨rfl, br_split (fun hg => ?_) (fun hg => ?_)⟩
    · have hg : (16 : Int) < (o : Int) := hg
      omega
    · exact ⟨rfl, _, wi.symm, (i + 1, o), all_sl ⟨rfl, rfl, trivial⟩, rfl, ole_refl _, ⟨hil, ho, go _ e (by omega)⟩, by dsimp only; omega⟩
end Go.Proofs.YtcgbcbdgjhnlaaaGreat

namespace Go.Proofs.YtcgbcbdgjhnlaaaGreat
open Go.RowKit

def leafN (n : NodeS) : Bool := (decide (n.a = 0) && decide (n.b = 0)) &&
  (if n.kind = 1 then decide (n.rel = []) && decide (n.thn = []) else if n.kind = 2 then wordS n.rel && decide (n.thn = []) else if n.kind = 3 then wordS n.rel && wordS n.thn else false)
def NodeS.small (n : NodeS) : Prop := n.rel.length ≤ 9223372036854775807 ∧ n.thn.length ≤ 9223372036854775807
set_option maxHeartbeats 2000000 in
theorem leaf_x (n : NodeS) (hs : n.small) (W : PW) : CallsX Tryz.prog 79 ⟨[.agg ⟨nodeC n⟩]⟩ [] W fun v _ => v = .bool (leafN n) := by
  obtain ⟨k, r, t, a, b⟩ := n
  obtain ⟨h1, h2⟩ := hs
  dsimp only at h1 h2
  refine pureX hmix Tryz.func79 r79 (by kernel_rfl) [.agg ⟨nodeC ⟨k, r, t, a, b⟩⟩] rfl ?_
  refine ⟨rfl, br_nsplit (fun ha => ?_) (fun ha => ?_)⟩
  · have ha : ¬ a = 0 := ha
    refine ret_plain rfl fun _ _ => ?_
    simp [leafN, ha]
  have ha : a = 0 := ha
  refine ⟨rfl, ?_⟩
  apply br_nsplit
  · intro hb
    have hb : ¬ b = 0 := hb
    refine ret_plain rfl fun _ _ => ?_
    simp [leafN, hb]
  intro hb
  have hb : b = 0 := hb
  refine ⟨rfl, br_split (fun k1 => ?_) (fun k1 => ?_)⟩
  · have k1 : (k : Int) = 1 := k1
    have k1' : k = 1 := by omega
    apply br_split
    · intro hr
      have hr : r = [] := hr
      refine ret_plain rfl fun _ _ => ?_
      show Value.bool (decide (t = [])) = _
      simp [leafN, ha, hb, k1', hr]
    · intro hr
      have hr : ¬ r = [] := hr
      refine ret_plain rfl fun _ _ => ?_
      simp [leafN, k1', hr]
  have k1 : ¬ (k : Int) = 1 := k1
  have k1' : ¬ k = 1 := by omega
  refine ⟨rfl, br_split (fun k2 => ?_) (fun k2 => ?_)⟩
  · have k2 : (k : Int) = 2 := k2
    have k2' : k = 2 := by omega
    refine call_v rfl (fun W' _ => word_xl r h1 W') (fun W3 v W4 _ _ hv => ?_)
    obtain ⟨w, hw, rfl⟩ : ∃ w, wordS r = w ∧ v = .bool w := ⟨_, rfl, hv⟩
    cases w with
    | true =>
      refine ret_plain rfl fun _ _ => ?_
      show Value.bool (decide (t = [])) = _
      simp [leafN, ha, hb, k2', hw]
    | false =>
      refine ret_plain rfl fun _ _ => ?_
      simp [leafN, k2', hw]
  have k2 : ¬ (k : Int) = 2 := k2
  have k2' : ¬ k = 2 := by omega
  refine ⟨rfl, br_split (fun k3 => ?_) (fun k3 => ?_)⟩
  · have k3 : (k : Int) = 3 := k3
    have k3' : k = 3 := by omega
    refine call_v rfl (fun W' _ => word_xl r h1 W') (fun W3 v W4 _ _ hv => ?_)
    obtain ⟨w, hw, rfl⟩ : ∃ w, wordS r = w ∧ v = .bool w := ⟨_, rfl, hv⟩
    cases w with
    | true =>
      refine call_v rfl (fun W' _ => word_xl t h2 W') (fun W3 v W4 _ _ hv => ?_)
      subst hv
      refine ret_plain rfl fun _ _ => ?_
      simp [leafN, ha, hb, k3', hw]
    | false =>
      refine ret_plain rfl fun _ _ => ?_
      simp [leafN, k3', hw]
  have k3 : ¬ (k : Int) = 3 := k3
  have k3' : ¬ k = 3 := by omega
  refine ret_plain rfl fun _ _ => ?_
  simp [leafN, k1', k2', k3']
/-- A function that tells of elements, by their cells. -/
def PredL {α : Type} (R : PW → α → List Value → Prop) (fid : FuncId) (q : α → Bool) (ok : α → Prop) : Prop := ∀ (x : α) (cs : List Value) (W : PW), ok x → R W x cs → CallsX Tryz.prog fid ⟨[.agg ⟨cs⟩]⟩ [] W fun v _ => v = .bool (q x)
def idxL {α : Type} (q : α → Bool) : List α → Int
  | [] => -1
  | x :: r => if q x then 0 else if idxL q r < 0 then -1 else idxL q r + 1
theorem idxL_any {α : Type} (q : α → Bool) : ∀ l : List α, -1 ≤ idxL q l ∧ (0 ≤ idxL q l ↔ l.any q = true)
  | [] => ⟨by simp [idxL], by simp [idxL]⟩
  | x :: r => by
    obtain ⟨h1, h2⟩ := idxL_any q r
    by_cases hq : q x = true
    · simp [idxL, hq]
    · have e : idxL q (x :: r) = if idxL q r < 0 then -1 else idxL q r + 1 := by simp only [idxL, if_neg hq]
      have e2 : (x :: r).any q = true ↔ 0 ≤ idxL q r := by rw [List.any_cons, Bool.or_eq_true, h2]; exact ⟨fun h => h.elim (fun h => absurd h hq) id, .inr⟩
      rw [e, e2]
      split
      · exact ⟨by omega, by omega⟩
      · exact ⟨by omega, by omega⟩
/-- One place on. -/
theorem idxL_drop {α : Type} (q : α → Bool) {l : List α} {i : Nat} {x : α} (hx : l[i]? = some x) (h : ∀ y ∈ l.take i, q y = false) : (q x = true → idxL q l = i) ∧ (q x = false → ∀ y ∈ l.take (i + 1), q y = false) := by
  constructor
  · intro hq
    induction l generalizing i with
    | nil => simp at hx
    | cons a l ih =>
      cases i with
      | zero =>
        simp only [List.getElem?_cons_zero, Option.some.injEq] at hx
        subst hx
        simp [idxL, hq]
      | succ i =>
        have ha := h a (by simp)
        have := ih (i := i) (by simpa using hx) fun y hy => h y (by simp [hy])
        simp only [idxL, ha, Bool.false_eq_true, if_false, this]
        rw [if_neg (by omega)]; push_cast; (first | done | rfl)
  · intro hq y hy
    rw [List.take_add_one, hx] at hy
    rcases List.mem_append.1 hy with hy | hy
    · exact h y hy
    · simp at hy; subst hy; exact hq
theorem idxL_none {α : Type} (q : α → Bool) : ∀ {l : List α}, (∀ y ∈ l, q y = false) → idxL q l = -1
  | [], _ => rfl
  | a :: l, h => by
    have h1 := h a (List.mem_cons_self ..)
    have h2 := idxL_none q (l := l) fun y hy => h y (List.mem_cons_of_mem _ hy)
    simp only [idxL, h1, Bool.false_eq_true, if_false, h2]; (first | done | rfl)
/-- slices.IndexFunc over relations. -/
theorem idxrel_x {q : RelS → Bool} {fid : FuncId} {ok : RelS → Prop} (hp : PredL RelR fid q ok) (l : List RelS) (hok : ∀ x ∈ l, ok x) (u : Value) (hl : l.length ≤ 1000000) (W : PW) (h : RL RelR 3 W u l) :
    CallsX Tryz.prog 101 ⟨[u, .func (.func fid) #[] #[]]⟩ [] W fun v _ => v = .int .i64 (idxL q l) := by
  obtain ⟨A, c, rfl, _, _⟩ := h.form
  refine pureX hmix Tryz.func101 r101 (by kernel_rfl) [.slice A l.length c, .func (.func fid) #[] #[]] rfl ?_
  refine ⟨Nat, fun i => [(8, .v (.int .i64 i))], fun _ => [], fun _ => [], fun i _ => i ≤ l.length ∧ ∀ y ∈ l.take i, q y = false, fun i => l.length - i, 0,
    all_sl ⟨rfl, trivial⟩, rfl, ole_refl _, ⟨Nat.zero_le _, by simp⟩, loopOK (fun _ => ⟨⟨trivial, rfl⟩, trivial⟩) (fun _ => rfl) (fun _ => rfl), ?_⟩
  rintro i W1 l1 ⟨hi, hI⟩ fr
  refine ⟨rfl, br_split (fun hq => ?_) (fun hq => ?_)⟩
  rotate_left
  · have hq : ¬ (i : Int) < l.length := hq
    rw [List.take_of_length_le (by omega)] at hI
    exact ret_plain rfl fun _ _ => by rw [idxL_none q hI]
  have hq : (i : Int) < l.length := hq
  obtain ⟨pc, rfl, x, cs, hx, hcl, hR, _, hrd⟩ := h.at RelR.mono l1 (j := i) ⟨by omega, hq⟩
  have hx : l[i]? = some x := hx
  obtain ⟨d1, d2⟩ := idxL_drop q hx hI
  refine ⟨⟨by omega, hq⟩, pc, rfl, cs, hcl, hrd.o, ?_⟩
  refine call_v rfl (fun W' lw => hp x cs W' (hok x (List.mem_of_getElem? hx)) (RelR.mono _ _ _ _ lw hR)) (fun W3 v W4 _ _ hv => ?_)
  obtain ⟨b, hb, rfl⟩ : ∃ b, q x = b ∧ v = .bool b := ⟨_, rfl, hv⟩
  cases b with
  | true => exact ret_plain rfl fun _ _ => by rw [d1 hb]
  | false => exact ⟨rfl, _, (i64_in ((i : Int) + 1) ⟨by omega, by omega⟩).symm, i + 1, all_sl ⟨rfl, trivial⟩, rfl, ole_refl _, ⟨by omega, d2 hb⟩, by dsimp only; omega⟩
theorem anyrel_x {q : RelS → Bool} {fid : FuncId} {ok : RelS → Prop} (hp : PredL RelR fid q ok) (l : List RelS) (hok : ∀ x ∈ l, ok x) (u : Value) (hl : l.length ≤ 1000000) (W : PW) (h : RL RelR 3 W u l) :
    CallsX Tryz.prog 73 ⟨[u, .func (.func fid) #[] #[]]⟩ [] W fun v _ => v = .bool (l.any q) := by
  refine pureX hmix Tryz.func73 r73 (by kernel_rfl) [u, .func (.func fid) #[] #[]] rfl ?_
  refine call_v rfl (fun W' lw => idxrel_x hp l hok u hl W' (h.mono RelR.mono lw)) (fun W3 v W4 _ _ hv => ?_)
  obtain ⟨k, hk, rfl⟩ : ∃ k, idxL q l = k ∧ v = .int .i64 k := ⟨_, rfl, hv⟩
  obtain ⟨_, h2⟩ := idxL_any q l
  refine ⟨rfl, ret_plain rfl fun _ _ => ?_⟩
  show Value.bool (decide (0 ≤ k)) = _
  rw [← hk]
  congr 1
  rw [Bool.eq_iff_iff, decide_eq_true_eq]; exact h2
end Go.Proofs.YtcgbcbdgjhnlaaaGreat

namespace Go.Proofs.YtcgbcbdgjhnlaaaGreat

def isOp (n : NodeS) : Bool := decide (n.kind = 4) || decide (n.kind = 5) || decide (n.kind = 6)
/-- The size and the depth of the next node; none: it is not right. 'ss', 'ds': those of the nodes ahead of it. -/
def stepD (ss ds : List Int) (n : NodeS) : Option (Int × Int) :=
  if isOp n then
    if n.rel = [] ∧ n.thn = [] ∧ n.b = (ss.length : Int) - 1 ∧ 0 ≤ n.b ∧ n.a = (ss.length : Int) - 1 - ss.getD (ss.length - 1) 0 ∧ 0 ≤ n.a then
      some (ss.getD n.a.toNat 0 + ss.getD n.b.toNat 0 + 1, (if ds.getD n.a.toNat 0 ≤ ds.getD n.b.toNat 0 then ds.getD n.b.toNat 0 else ds.getD n.a.toNat 0) + 1)
    else none
  else if leafN n then some (1, 1) else none
def deepR : List Int → List Int → List NodeS → Option (List Int × List Int)
  | ss, ds, [] => some (ss, ds)
  | ss, ds, n :: r => match stepD ss ds n with
    | some (x, y) => deepR (ss ++ [x]) (ds ++ [y]) r
    | none => none
def deepN (l : List NodeS) : Int := match deepR [] [] l with
  | some (ss, ds) => if l = [] ∨ ¬ ss.getD (l.length - 1) 0 = l.length then 0 else ds.getD (l.length - 1) 0
  | none => 0
/-- Sizes and depths are from 1 to the number of nodes so far. -/
def Fine (ss : List Int) : Prop := ∀ (j : Nat) (x : Int), ss[j]? = some x → 1 ≤ x ∧ x ≤ j + 1
theorem Fine.nil : Fine [] := fun j x h => by simp at h
theorem Fine.getD {ss : List Int} (h : Fine ss) {j : Nat} (hj : j < ss.length) : 1 ≤ ss.getD j 0 ∧ ss.getD j 0 ≤ j + 1 := by
  have e : ss[j]? = some ss[j] := List.getElem?_eq_getElem hj
  have : ss.getD j 0 = ss[j] := by rw [List.getD_eq_getElem?_getD, e]; (first | done | rfl)
  rw [this]; exact h j _ e
theorem Fine.snoc {ss : List Int} (h : Fine ss) {x : Int} (hx : 1 ≤ x ∧ x ≤ (ss.length : Int) + 1) : Fine (ss ++ [x]) := by
  intro j y hy
  rcases Nat.lt_trichotomy j ss.length with hlt | heq | hgt
  · rw [List.getElem?_append_left hlt] at hy; exact h j y hy
  · subst heq
    rw [List.getElem?_append_right (Nat.le_refl _), Nat.sub_self] at hy
    simp only [List.getElem?_cons_zero, Option.some.injEq] at hy
    subst hy; exact hx
  · rw [List.getElem?_eq_none (by simp; omega)] at hy; cases hy
theorem stepD_fine {ss ds : List Int} {n : NodeS} {x y : Int} (hl : ds.length = ss.length) (hs : Fine ss) (hd : Fine ds) (h : stepD ss ds n = some (x, y)) : (1 ≤ x ∧ x ≤ (ss.length : Int) + 1) ∧ (1 ≤ y ∧ y ≤ (ss.length : Int) + 1) := by
  unfold stepD at h
  split at h
  · split at h
    · rename_i hc
      obtain ⟨_, _, h1, h2, h3, h4⟩ := hc
      simp only [Option.some.injEq, Prod.mk.injEq] at h
      obtain ⟨rfl, rfl⟩ := h
      have hb : n.b.toNat < ss.length := by omega
      have e : n.b.toNat = ss.length - 1 := by omega
      obtain ⟨a1, a2⟩ := hs.getD hb
      rw [← e] at h3
      have ha : n.a.toNat < ss.length := by omega
      obtain ⟨b1, b2⟩ := hs.getD ha
      obtain ⟨c1, c2⟩ := hd.getD (j := n.b.toNat) (by omega)
      obtain ⟨d1, d2⟩ := hd.getD (j := n.a.toNat) (by omega)
      refine ⟨⟨by omega, by omega⟩, ?_⟩
      split <;> exact ⟨by omega, by omega⟩
    · cases h
  · split at h
    · simp only [Option.some.injEq, Prod.mk.injEq] at h
      obtain ⟨rfl, rfl⟩ := h
      exact ⟨⟨by omega, by omega⟩, by omega, by omega⟩
    · cases h
end Go.Proofs.YtcgbcbdgjhnlaaaGreat

namespace Go.Proofs.YtcgbcbdgjhnlaaaGreat
open Go.RowKit

def cellsO (b n : Nat) (xs : List Int) : Own := ⟨.slice (some ⟨b, 0, none⟩) n n, 3, 1, n, xs.map (Value.int .i64) ++ List.replicate (n - xs.length) (.int .i64 0)⟩
theorem cellsO_get (n : Nat) (xs : List Int) {j : Nat} (h : j < xs.length) : (xs.map (Value.int .i64) ++ List.replicate (n - xs.length) (Value.int .i64 0))[j]? = some (.int .i64 (xs.getD j 0)) := by
  rw [List.getElem?_append_left (by simpa using h), List.getElem?_map, List.getElem?_eq_getElem h, List.getD_eq_getElem?_getD, List.getElem?_eq_getElem h]; (first | done | rfl)
theorem cellsO_set (n : Nat) (xs : List Int) (x : Int) (h : xs.length < n) : (xs.map (Value.int .i64) ++ List.replicate (n - xs.length) (Value.int .i64 0)).take xs.length ++ [.int .i64 x] ++ (xs.map (Value.int .i64) ++ List.replicate (n - xs.length) (Value.int .i64 0)).drop (xs.length + 1) = (xs ++ [x]).map (Value.int .i64) ++ List.replicate (n - (xs ++ [x]).length) (.int .i64 0) := by
  rw [List.take_left' (by simp), List.drop_append, List.drop_eq_nil_of_le (by simp), List.nil_append, List.length_map, List.drop_replicate, List.map_append, List.length_append]
  simp only [List.map_cons, List.map_nil, List.length_cons, List.length_nil]
  rw [show n - xs.length - (xs.length + 1 - xs.length) = n - (xs.length + (0 + 1)) by omega]
theorem cellAddr (a : Addr) (j : Nat) : a.add (j * 1) = a.add j := by rw [Nat.mul_one]
theorem cells_le (n : Nat) (xs : List Int) {j : Nat} (hj : j = xs.length) (h : xs.length < n) : j + 1 ≤ (xs.map (Value.int .i64) ++ List.replicate (n - xs.length) (Value.int .i64 0)).length := by
  simp; omega
theorem cellsO_set' (n : Nat) (xs : List Int) (x : Int) {j : Nat} (hj : j = xs.length) (h : xs.length < n) : (xs.map (Value.int .i64) ++ List.replicate (n - xs.length) (Value.int .i64 0)).take j ++ [.int .i64 x] ++ (xs.map (Value.int .i64) ++ List.replicate (n - xs.length) (Value.int .i64 0)).drop (j + 1) = (xs ++ [x]).map (Value.int .i64) ++ List.replicate (n - (xs ++ [x]).length) (.int .i64 0) := by
  subst hj; exact cellsO_set n xs x h
theorem one_iv (x : Int) : ∀ u ∈ [Value.int .i64 x], u.oneCell' = true := fun u hu => by rw [List.mem_singleton.1 hu]; (first | done | rfl)
set_option maxRecDepth 20000 in
set_option maxHeartbeats 8000000 in
theorem deep_x (l : List NodeS) (u : Value) (hl : l.length ≤ 100000) (hok : ∀ x ∈ l, x.small) (W : PW) (h : RP nodeC W u l) : CallsX Tryz.prog 56 ⟨[u]⟩ [] W fun v _ => v = .int .i64 (deepN l) := by
  obtain ⟨A, c, rfl, _, _⟩ := h.form
  have hmax := maxLen_big
  refine pureX hmix Tryz.func56 r56 (by kernel_rfl) [.slice A l.length c] rfl ?_
  refine ⟨?_, ?_⟩
  · refine ⟨⟨by omega, by omega, by omega, by omega⟩, fun b1 => ⟨⟨by omega, by omega, by omega, by omega⟩, fun b2 => ?_⟩⟩
    refine ⟨List Int × List Int, fun t => [(15, .v (.int .i64 t.1.length))], fun _ => [], fun t => [cellsO b1 l.length t.1, cellsO b2 l.length t.2], fun t _ => t.1.length ≤ l.length ∧ t.2.length = t.1.length ∧ Fine t.1 ∧ Fine t.2 ∧ deepR [] [] l = deepR t.1 t.2 (l.drop t.1.length), fun t => l.length - t.1.length, ([], []),
      all_sl ⟨rfl, trivial⟩, rfl, ole_eq (by simp [cellsO]; (first | done | rfl)), ⟨Nat.zero_le _, rfl, Fine.nil, Fine.nil, rfl⟩, loopOK (fun _ => ⟨⟨trivial, rfl⟩, trivial⟩) (fun _ => rfl) (fun _ => rfl), ?_⟩
    rintro ⟨ss, ds⟩ W1 l1 ⟨hi, hds, hF, hG, hres⟩ fr
    dsimp only at hi hds hF hG hres
    obtain ⟨i, hii⟩ : ∃ i, ss.length = i := ⟨_, rfl⟩
    refine ⟨rfl, br_split (fun hq => ?_) (fun hq => ?_)⟩
    rotate_left
    · have hq : ¬ (ss.length : Int) < l.length := hq
      have hn : ss.length = l.length := by omega
      rw [hn, List.drop_length] at hres
      have hres : deepR [] [] l = some (ss, ds) := hres
      refine ⟨rfl, br_split (fun h0 => ?_) (fun h0 => ?_)⟩
      · have h0 : (l.length : Int) = 0 := h0
        have hnil : l = [] := List.eq_nil_of_length_eq_zero (by omega)
        refine ret_plain rfl fun _ _ => ?_
        unfold deepN; rw [hres]; dsimp only; rw [if_pos (.inl hnil)]
      have h0 : ¬ (l.length : Int) = 0 := h0
      have hne : ¬ l = [] := fun e => h0 (by rw [e]; (first | done | rfl))
      have w1 : IntKind.i64.wrap ((l.length : Int) - 1) = (l.length : Int) - 1 := i64_in _ ⟨by omega, by omega⟩
      have ej : ((l.length : Int) - 1).toNat = l.length - 1 := by omega
      refine ⟨rfl, _, w1.symm, ⟨by omega, by omega⟩, _, rfl, .int .i64 (ss.getD ((l.length : Int) - 1).toNat 0), .inr ⟨0, _, _, _, _, ((l.length : Int) - 1).toNat, rfl, rfl, cellAddr _ _, cellsO_get _ _ (by show _ < ss.length; omega)⟩, rfl, ?_⟩
      apply br_nsplit
      · intro h1
        have h1 : ¬ ss.getD ((l.length : Int) - 1).toNat 0 = l.length := h1
        rw [ej] at h1
        refine ret_plain rfl fun _ _ => ?_
        unfold deepN; rw [hres]; dsimp only; rw [if_pos (.inr h1)]
      intro h1
      have h1 : ss.getD ((l.length : Int) - 1).toNat 0 = l.length := h1
      rw [ej] at h1
      refine ⟨rfl, _, w1.symm, ⟨by omega, by omega⟩, _, rfl, .int .i64 (ds.getD ((l.length : Int) - 1).toNat 0), .inr ⟨1, _, _, _, _, ((l.length : Int) - 1).toNat, rfl, rfl, cellAddr _ _, cellsO_get _ _ (by show _ < ds.length; omega)⟩, ?_⟩
      refine ret_plain rfl fun _ _ => ?_
      unfold deepN; rw [hres, ej]; dsimp only; rw [if_neg (fun h => h.elim hne (fun h => h h1))]
    have hq : (ss.length : Int) < l.length := hq
    have hil : ss.length < l.length := by omega
    obtain ⟨pc, rfl, x, hx, _, _, hrc⟩ := h.at (sz := 5) (fun _ => rfl) l1 (j := ss.length) ⟨by omega, hq⟩
    have hx : l[ss.length]? = some x := hx
    have hd : l.drop ss.length = x :: l.drop (ss.length + 1) := by
      rw [List.drop_eq_getElem_cons hil]
      rw [List.getElem?_eq_getElem hil] at hx
      rw [Option.some.inj hx]
    rw [hd] at hres
    have hxs := hok x (List.mem_of_getElem? hx)
    have bad : stepD ss ds x = none → deepN l = 0 := fun e => by
      unfold deepN; rw [hres]; simp only [deepR, e]
    have good : ∀ y z, stepD ss ds x = some (y, z) → deepR [] [] l = deepR (ss ++ [y]) (ds ++ [z]) (l.drop (ss.length + 1)) := fun y z e => by
      rw [hres]; simp only [deepR, e]
    have wi : IntKind.i64.wrap ((ss.length : Int) + 1) = (ss.length : Int) + 1 := i64_in _ ⟨by omega, by omega⟩
    obtain ⟨k, r, th, a, b⟩ := x
    refine ⟨⟨by omega, hq⟩, pc, rfl, nodeC ⟨k, r, th, a, b⟩, rfl, hrc.o, rfl, br_nsplit (fun n4 => ?_) (fun y4 => ?_)⟩
    rotate_left
    have hop : isOp ⟨k, r, th, a, b⟩ = true := by
      have y4 : (k : Int) = 4 := y4
      have : k = 4 := by omega
      subst this; (first | done | rfl)
    rotate_left
    have n4 : ¬ (k : Int) = 4 := n4
    refine ⟨rfl, ?_⟩
    apply br_nsplit
    rotate_left
    intro y5
    have hop : isOp ⟨k, r, th, a, b⟩ = true := by
      have y5 : (k : Int) = 5 := y5
      have : k = 5 := by omega
      subst this; (first | done | rfl)
    rotate_left 2
    intro n5
    have n5 : ¬ (k : Int) = 5 := n5
    refine ⟨rfl, ?_⟩
    apply br_nsplit
    rotate_left
    intro y6
    have hop : isOp ⟨k, r, th, a, b⟩ = true := by
      have y6 : (k : Int) = 6 := y6
      have : k = 6 := by omega
      subst this; (first | done | rfl)
    rotate_left 3
    · intro n6
      have n6 : ¬ (k : Int) = 6 := n6
      have hop : isOp ⟨k, r, th, a, b⟩ = false := by
        unfold isOp; rw [decide_eq_false (show ¬ k = 4 by omega), decide_eq_false (show ¬ k = 5 by omega), decide_eq_false (show ¬ k = 6 by omega)]; (first | done | rfl)
      refine call_v rfl (fun W' _ => leaf_x ⟨k, r, th, a, b⟩ hxs W') (fun W3 v W4 _ _ hv => ?_)
      obtain ⟨w, hw, rfl⟩ : ∃ w, leafN ⟨k, r, th, a, b⟩ = w ∧ v = .bool w := ⟨_, rfl, hv⟩
      cases w with
      | false =>
        refine ret_plain rfl fun _ _ => ?_
        rw [bad (by unfold stepD; rw [hop, hw]; (first | done | rfl))]
      | true =>
        have hst : stepD ss ds ⟨k, r, th, a, b⟩ = some (1, 1) := by unfold stepD; rw [hop, hw]; (first | done | rfl)
        obtain ⟨f1, f2⟩ := stepD_fine hds hF hG hst
        refine ⟨⟨by omega, hq⟩, _, rfl, 0, _, _, _, _, ss.length, rfl, rfl, cellAddr _ _, rfl, one_iv _, cells_le _ ss rfl hil, rfl, ?_⟩
        refine ⟨⟨by omega, hq⟩, _, rfl, 1, _, _, _, _, ss.length, rfl, rfl, cellAddr _ _, rfl, one_iv _, cells_le _ ds hds.symm (by omega), rfl, ?_⟩
        refine ⟨rfl, _, wi.symm, (ss ++ [1], ds ++ [1]), all_sl ⟨by rw [List.length_append]; (first | done | rfl), trivial⟩, rfl, ole_eq ?_, ⟨by simp; omega, by simp [hds], hF.snoc f1, hG.snoc (by rw [hds]; exact f2), ?_⟩, by simp; omega⟩
        · have eS := cellsO_set' l.length ss 1 rfl hil
          have eD := cellsO_set' l.length ds 1 (j := ss.length) hds.symm (by omega)
          simp only [cellsO]
          rw [← eS, ← eD]; (first | done | rfl)
        · rw [List.length_append]; exact good _ _ hst
    all_goals
      have w1 : IntKind.i64.wrap ((ss.length : Int) - 1) = (ss.length : Int) - 1 := i64_in _ ⟨by omega, by omega⟩
      have ej : ((ss.length : Int) - 1).toNat = ss.length - 1 := by omega
      have hstep : stepD ss ds ⟨k, r, th, a, b⟩ = if r = [] ∧ th = [] ∧ b = (ss.length : Int) - 1 ∧ 0 ≤ b ∧ a = (ss.length : Int) - 1 - ss.getD (ss.length - 1) 0 ∧ 0 ≤ a then some (ss.getD a.toNat 0 + ss.getD b.toNat 0 + 1, (if ds.getD a.toNat 0 ≤ ds.getD b.toNat 0 then ds.getD b.toNat 0 else ds.getD a.toNat 0) + 1) else none := by unfold stepD; rw [if_pos hop]
      apply br_nsplit
      · intro e1
        have e1 : ¬ r = [] := e1
        skip
        refine ret_plain rfl fun _ _ => ?_
        rw [bad (hstep.trans (if_neg (fun h => e1 h.1)))]
      intro e1
      have e1 : r = [] := e1
      apply br_nsplit
      · intro e2
        have e2 : ¬ th = [] := e2
        skip
        refine ret_plain rfl fun _ _ => ?_
        rw [bad (hstep.trans (if_neg (fun h => e2 h.2.1)))]
      intro e2
      have e2 : th = [] := e2
      refine ⟨rfl, _, w1.symm, rfl, ?_⟩
      apply br_nsplit
      · intro e3
        have e3 : ¬ b = (ss.length : Int) - 1 := e3
        skip
        refine ret_plain rfl fun _ _ => ?_
        rw [bad (hstep.trans (if_neg (fun h => e3 h.2.2.1)))]
      intro e3
      have e3 : b = (ss.length : Int) - 1 := e3
      refine ⟨rfl, ?_⟩
      apply br_split
      · intro e4
        have e4 : b < 0 := e4
        skip
        refine ret_plain rfl fun _ _ => ?_
        rw [bad (hstep.trans (if_neg (fun h => by have := h.2.2.2.1; omega)))]
      intro e4
      have e4 : ¬ b < 0 := e4
      obtain ⟨g1, g2⟩ := hF.getD (j := ss.length - 1) (by omega)
      refine ⟨rfl, _, w1.symm, rfl, _, w1.symm, ⟨by omega, by omega⟩, _, rfl, .int .i64 (ss.getD ((ss.length : Int) - 1).toNat 0), .inr ⟨0, _, _, _, _, ((ss.length : Int) - 1).toNat, rfl, rfl, cellAddr _ _, cellsO_get _ _ (by show _ < ss.length; omega)⟩, rfl, _, (i64_in ((ss.length : Int) - 1 - ss.getD ((ss.length : Int) - 1).toNat 0) ⟨by rw [ej]; omega, by rw [ej]; omega⟩).symm, rfl, ?_⟩
      apply br_nsplit
      · intro e5
        have e5 : ¬ a = (ss.length : Int) - 1 - ss.getD ((ss.length : Int) - 1).toNat 0 := e5
        rw [ej] at e5
        refine ret_plain rfl fun _ _ => ?_
        rw [bad (hstep.trans (if_neg (fun h => e5 h.2.2.2.2.1)))]
      intro e5
      have e5 : a = (ss.length : Int) - 1 - ss.getD ((ss.length : Int) - 1).toNat 0 := e5
      rw [ej] at e5
      refine ⟨rfl, ?_⟩
      apply br_split
      · intro e6
        have e6 : a < 0 := e6
        skip
        refine ret_plain rfl fun _ _ => ?_
        rw [bad (hstep.trans (if_neg (fun h => by have := h.2.2.2.2.2; omega)))]
      intro e6
      have e6 : ¬ a < 0 := e6
      have hst := hstep.trans (if_pos ⟨e1, e2, e3, by omega, e5, by omega⟩)
      obtain ⟨f1, f2⟩ := stepD_fine hds hF hG hst
      obtain ⟨p1, p2⟩ := hF.getD (j := a.toNat) (by omega)
      obtain ⟨p3, p4⟩ := hF.getD (j := b.toNat) (by omega)
      obtain ⟨p5, p6⟩ := hG.getD (j := a.toNat) (by omega)
      obtain ⟨p7, p8⟩ := hG.getD (j := b.toNat) (by omega)
      refine ⟨⟨by show (0 : Int) ≤ a; omega, by show a < (l.length : Int); omega⟩, _, rfl, .int .i64 (ss.getD a.toNat 0), .inr ⟨0, _, _, _, _, a.toNat, rfl, rfl, cellAddr _ _, cellsO_get _ _ (by show _ < ss.length; omega)⟩, ⟨by show (0 : Int) ≤ b; omega, by show b < (l.length : Int); omega⟩, _, rfl, .int .i64 (ss.getD b.toNat 0), .inr ⟨0, _, _, _, _, b.toNat, rfl, rfl, cellAddr _ _, cellsO_get _ _ (by show _ < ss.length; omega)⟩, rfl, _, (i64_in (ss.getD a.toNat 0 + ss.getD b.toNat 0) ⟨by omega, by omega⟩).symm, rfl, _, (i64_in (ss.getD a.toNat 0 + ss.getD b.toNat 0 + 1) ⟨by omega, by omega⟩).symm, ⟨by omega, hq⟩, _, rfl, ?_⟩
      refine ⟨0, _, _, _, _, ss.length, rfl, rfl, cellAddr _ _, rfl, one_iv _, cells_le _ ss rfl hil, rfl, ?_⟩
      refine ⟨⟨by show (0 : Int) ≤ a; omega, by show a < (l.length : Int); omega⟩, _, rfl, .int .i64 (ds.getD a.toNat 0), .inr ⟨1, _, _, _, _, a.toNat, rfl, rfl, cellAddr _ _, cellsO_get _ _ (by show _ < ds.length; omega)⟩, ⟨by show (0 : Int) ≤ b; omega, by show b < (l.length : Int); omega⟩, _, rfl, .int .i64 (ds.getD b.toNat 0), .inr ⟨1, _, _, _, _, b.toNat, rfl, rfl, cellAddr _ _, cellsO_get _ _ (by show _ < ds.length; omega)⟩, rfl, rfl, _, (i64_in ((if ds.getD a.toNat 0 ≤ ds.getD b.toNat 0 then ds.getD b.toNat 0 else ds.getD a.toNat 0) + 1) ⟨by split <;> omega, by split <;> omega⟩).symm, ⟨by omega, hq⟩, _, rfl, ?_⟩
      refine ⟨1, _, _, _, _, ss.length, rfl, rfl, cellAddr _ _, rfl, one_iv _, cells_le _ ds hds.symm (by omega), rfl, ?_⟩
      refine ⟨rfl, _, wi.symm, (ss ++ [ss.getD a.toNat 0 + ss.getD b.toNat 0 + 1], ds ++ [(if ds.getD a.toNat 0 ≤ ds.getD b.toNat 0 then ds.getD b.toNat 0 else ds.getD a.toNat 0) + 1]), all_sl ⟨by rw [List.length_append]; (first | done | rfl), trivial⟩, rfl, ole_eq ?_, ⟨by simp; omega, by simp [hds], hF.snoc f1, hG.snoc (by rw [hds]; exact f2), ?_⟩, by simp; omega⟩
      · have eS := cellsO_set' l.length ss (ss.getD a.toNat 0 + ss.getD b.toNat 0 + 1) rfl hil
        have eD := cellsO_set' l.length ds ((if ds.getD a.toNat 0 ≤ ds.getD b.toNat 0 then ds.getD b.toNat 0 else ds.getD a.toNat 0) + 1) (j := ss.length) hds.symm (by omega)
        simp only [cellsO]
        rw [← eS, ← eD]; (first | done | rfl)
      · rw [List.length_append]; exact good _ _ hst
  · refine ⟨⟨by omega, by omega, by omega, by omega⟩, fun b2 => ⟨⟨by omega, by omega, by omega, by omega⟩, fun b1 => ?_⟩⟩
    refine ⟨List Int × List Int, fun t => [(15, .v (.int .i64 t.1.length))], fun _ => [], fun t => [cellsO b2 l.length t.2, cellsO b1 l.length t.1], fun t _ => t.1.length ≤ l.length ∧ t.2.length = t.1.length ∧ Fine t.1 ∧ Fine t.2 ∧ deepR [] [] l = deepR t.1 t.2 (l.drop t.1.length), fun t => l.length - t.1.length, ([], []),
      all_sl ⟨rfl, trivial⟩, rfl, ole_eq (by simp [cellsO]; (first | done | rfl)), ⟨Nat.zero_le _, rfl, Fine.nil, Fine.nil, rfl⟩, loopOK (fun _ => ⟨⟨trivial, rfl⟩, trivial⟩) (fun _ => rfl) (fun _ => rfl), ?_⟩
    rintro ⟨ss, ds⟩ W1 l1 ⟨hi, hds, hF, hG, hres⟩ fr
    dsimp only at hi hds hF hG hres
    obtain ⟨i, hii⟩ : ∃ i, ss.length = i := ⟨_, rfl⟩
    refine ⟨rfl, br_split (fun hq => ?_) (fun hq => ?_)⟩
    rotate_left
    · have hq : ¬ (ss.length : Int) < l.length := hq
      have hn : ss.length = l.length := by omega
      rw [hn, List.drop_length] at hres
      have hres : deepR [] [] l = some (ss, ds) := hres
      refine ⟨rfl, br_split (fun h0 => ?_) (fun h0 => ?_)⟩
      · have h0 : (l.length : Int) = 0 := h0
        have hnil : l = [] := List.eq_nil_of_length_eq_zero (by omega)
        refine ret_plain rfl fun _ _ => ?_
        unfold deepN; rw [hres]; dsimp only; rw [if_pos (.inl hnil)]
      have h0 : ¬ (l.length : Int) = 0 := h0
      have hne : ¬ l = [] := fun e => h0 (by rw [e]; (first | done | rfl))
      have w1 : IntKind.i64.wrap ((l.length : Int) - 1) = (l.length : Int) - 1 := i64_in _ ⟨by omega, by omega⟩
      have ej : ((l.length : Int) - 1).toNat = l.length - 1 := by omega
      refine ⟨rfl, _, w1.symm, ⟨by omega, by omega⟩, _, rfl, .int .i64 (ss.getD ((l.length : Int) - 1).toNat 0), .inr ⟨1, _, _, _, _, ((l.length : Int) - 1).toNat, rfl, rfl, cellAddr _ _, cellsO_get _ _ (by show _ < ss.length; omega)⟩, rfl, ?_⟩
      apply br_nsplit
      · intro h1
        have h1 : ¬ ss.getD ((l.length : Int) - 1).toNat 0 = l.length := h1
        rw [ej] at h1
        refine ret_plain rfl fun _ _ => ?_
        unfold deepN; rw [hres]; dsimp only; rw [if_pos (.inr h1)]
      intro h1
      have h1 : ss.getD ((l.length : Int) - 1).toNat 0 = l.length := h1
      rw [ej] at h1
      refine ⟨rfl, _, w1.symm, ⟨by omega, by omega⟩, _, rfl, .int .i64 (ds.getD ((l.length : Int) - 1).toNat 0), .inr ⟨0, _, _, _, _, ((l.length : Int) - 1).toNat, rfl, rfl, cellAddr _ _, cellsO_get _ _ (by show _ < ds.length; omega)⟩, ?_⟩
      refine ret_plain rfl fun _ _ => ?_
      unfold deepN; rw [hres, ej]; dsimp only; rw [if_neg (fun h => h.elim hne (fun h => h h1))]
    have hq : (ss.length : Int) < l.length := hq
    have hil : ss.length < l.length := by omega
    obtain ⟨pc, rfl, x, hx, _, _, hrc⟩ := h.at (sz := 5) (fun _ => rfl) l1 (j := ss.length) ⟨by omega, hq⟩
    have hx : l[ss.length]? = some x := hx
    have hd : l.drop ss.length = x :: l.drop (ss.length + 1) := by
      rw [List.drop_eq_getElem_cons hil]
      rw [List.getElem?_eq_getElem hil] at hx
      rw [Option.some.inj hx]
    rw [hd] at hres
    have hxs := hok x (List.mem_of_getElem? hx)
    have bad : stepD ss ds x = none → deepN l = 0 := fun e => by
      unfold deepN; rw [hres]; simp only [deepR, e]
    have good : ∀ y z, stepD ss ds x = some (y, z) → deepR [] [] l = deepR (ss ++ [y]) (ds ++ [z]) (l.drop (ss.length + 1)) := fun y z e => by
      rw [hres]; simp only [deepR, e]
    have wi : IntKind.i64.wrap ((ss.length : Int) + 1) = (ss.length : Int) + 1 := i64_in _ ⟨by omega, by omega⟩
    obtain ⟨k, r, th, a, b⟩ := x
    refine ⟨⟨by omega, hq⟩, pc, rfl, nodeC ⟨k, r, th, a, b⟩, rfl, hrc.o, rfl, br_nsplit (fun n4 => ?_) (fun y4 => ?_)⟩
    rotate_left
    have hop : isOp ⟨k, r, th, a, b⟩ = true := by
      have y4 : (k : Int) = 4 := y4
      have : k = 4 := by omega
      subst this; (first | done | rfl)
    rotate_left
    have n4 : ¬ (k : Int) = 4 := n4
    refine ⟨rfl, ?_⟩
    apply br_nsplit
    rotate_left
    intro y5
    have hop : isOp ⟨k, r, th, a, b⟩ = true := by
      have y5 : (k : Int) = 5 := y5
      have : k = 5 := by omega
      subst this; (first | done | rfl)
    rotate_left 2
    intro n5
    have n5 : ¬ (k : Int) = 5 := n5
    refine ⟨rfl, ?_⟩
    apply br_nsplit
    rotate_left
    intro y6
    have hop : isOp ⟨k, r, th, a, b⟩ = true := by
      have y6 : (k : Int) = 6 := y6
      have : k = 6 := by omega
      subst this; (first | done | rfl)
    rotate_left 3
    · intro n6
      have n6 : ¬ (k : Int) = 6 := n6
      have hop : isOp ⟨k, r, th, a, b⟩ = false := by
        unfold isOp; rw [decide_eq_false (show ¬ k = 4 by omega), decide_eq_false (show ¬ k = 5 by omega), decide_eq_false (show ¬ k = 6 by omega)]; (first | done | rfl)
      refine call_v rfl (fun W' _ => leaf_x ⟨k, r, th, a, b⟩ hxs W') (fun W3 v W4 _ _ hv => ?_)
      obtain ⟨w, hw, rfl⟩ : ∃ w, leafN ⟨k, r, th, a, b⟩ = w ∧ v = .bool w := ⟨_, rfl, hv⟩
      cases w with
      | false =>
        refine ret_plain rfl fun _ _ => ?_
        rw [bad (by unfold stepD; rw [hop, hw]; (first | done | rfl))]
      | true =>
        have hst : stepD ss ds ⟨k, r, th, a, b⟩ = some (1, 1) := by unfold stepD; rw [hop, hw]; (first | done | rfl)
        obtain ⟨f1, f2⟩ := stepD_fine hds hF hG hst
        refine ⟨⟨by omega, hq⟩, _, rfl, 1, _, _, _, _, ss.length, rfl, rfl, cellAddr _ _, rfl, one_iv _, cells_le _ ss rfl hil, rfl, ?_⟩
        refine ⟨⟨by omega, hq⟩, _, rfl, 0, _, _, _, _, ss.length, rfl, rfl, cellAddr _ _, rfl, one_iv _, cells_le _ ds hds.symm (by omega), rfl, ?_⟩
        refine ⟨rfl, _, wi.symm, (ss ++ [1], ds ++ [1]), all_sl ⟨by rw [List.length_append]; (first | done | rfl), trivial⟩, rfl, ole_eq ?_, ⟨by simp; omega, by simp [hds], hF.snoc f1, hG.snoc (by rw [hds]; exact f2), ?_⟩, by simp; omega⟩
        · have eS := cellsO_set' l.length ss 1 rfl hil
          have eD := cellsO_set' l.length ds 1 (j := ss.length) hds.symm (by omega)
          simp only [cellsO]
          rw [← eS, ← eD]; (first | done | rfl)
        · rw [List.length_append]; exact good _ _ hst
    all_goals
      have w1 : IntKind.i64.wrap ((ss.length : Int) - 1) = (ss.length : Int) - 1 := i64_in _ ⟨by omega, by omega⟩
      have ej : ((ss.length : Int) - 1).toNat = ss.length - 1 := by omega
      have hstep : stepD ss ds ⟨k, r, th, a, b⟩ = if r = [] ∧ th = [] ∧ b = (ss.length : Int) - 1 ∧ 0 ≤ b ∧ a = (ss.length : Int) - 1 - ss.getD (ss.length - 1) 0 ∧ 0 ≤ a then some (ss.getD a.toNat 0 + ss.getD b.toNat 0 + 1, (if ds.getD a.toNat 0 ≤ ds.getD b.toNat 0 then ds.getD b.toNat 0 else ds.getD a.toNat 0) + 1) else none := by unfold stepD; rw [if_pos hop]
      apply br_nsplit
      · intro e1
        have e1 : ¬ r = [] := e1
        skip
        refine ret_plain rfl fun _ _ => ?_
        rw [bad (hstep.trans (if_neg (fun h => e1 h.1)))]
      intro e1
      have e1 : r = [] := e1
      apply br_nsplit
      · intro e2
        have e2 : ¬ th = [] := e2
        skip
        refine ret_plain rfl fun _ _ => ?_
        rw [bad (hstep.trans (if_neg (fun h => e2 h.2.1)))]
      intro e2
      have e2 : th = [] := e2
      refine ⟨rfl, _, w1.symm, rfl, ?_⟩
      apply br_nsplit
      · intro e3
        have e3 : ¬ b = (ss.length : Int) - 1 := e3
        skip
        refine ret_plain rfl fun _ _ => ?_
        rw [bad (hstep.trans (if_neg (fun h => e3 h.2.2.1)))]
      intro e3
      have e3 : b = (ss.length : Int) - 1 := e3
      refine ⟨rfl, ?_⟩
      apply br_split
      · intro e4
        have e4 : b < 0 := e4
        skip
        refine ret_plain rfl fun _ _ => ?_
        rw [bad (hstep.trans (if_neg (fun h => by have := h.2.2.2.1; omega)))]
      intro e4
      have e4 : ¬ b < 0 := e4
      obtain ⟨g1, g2⟩ := hF.getD (j := ss.length - 1) (by omega)
      refine ⟨rfl, _, w1.symm, rfl, _, w1.symm, ⟨by omega, by omega⟩, _, rfl, .int .i64 (ss.getD ((ss.length : Int) - 1).toNat 0), .inr ⟨1, _, _, _, _, ((ss.length : Int) - 1).toNat, rfl, rfl, cellAddr _ _, cellsO_get _ _ (by show _ < ss.length; omega)⟩, rfl, _, (i64_in ((ss.length : Int) - 1 - ss.getD ((ss.length : Int) - 1).toNat 0) ⟨by rw [ej]; omega, by rw [ej]; omega⟩).symm, rfl, ?_⟩
      apply br_nsplit
      · intro e5
        have e5 : ¬ a = (ss.length : Int) - 1 - ss.getD ((ss.length : Int) - 1).toNat 0 := e5
        rw [ej] at e5
        refine ret_plain rfl fun _ _ => ?_
        rw [bad (hstep.trans (if_neg (fun h => e5 h.2.2.2.2.1)))]
      intro e5
      have e5 : a = (ss.length : Int) - 1 - ss.getD ((ss.length : Int) - 1).toNat 0 := e5
      rw [ej] at e5
      refine ⟨rfl, ?_⟩
      apply br_split
      · intro e6
        have e6 : a < 0 := e6
        skip
        refine ret_plain rfl fun _ _ => ?_
        rw [bad (hstep.trans (if_neg (fun h => by have := h.2.2.2.2.2; omega)))]
      intro e6
      have e6 : ¬ a < 0 := e6
      have hst := hstep.trans (if_pos ⟨e1, e2, e3, by omega, e5, by omega⟩)
      obtain ⟨f1, f2⟩ := stepD_fine hds hF hG hst
      obtain ⟨p1, p2⟩ := hF.getD (j := a.toNat) (by omega)
      obtain ⟨p3, p4⟩ := hF.getD (j := b.toNat) (by omega)
      obtain ⟨p5, p6⟩ := hG.getD (j := a.toNat) (by omega)
      obtain ⟨p7, p8⟩ := hG.getD (j := b.toNat) (by omega)
      refine ⟨⟨by show (0 : Int) ≤ a; omega, by show a < (l.length : Int); omega⟩, _, rfl, .int .i64 (ss.getD a.toNat 0), .inr ⟨1, _, _, _, _, a.toNat, rfl, rfl, cellAddr _ _, cellsO_get _ _ (by show _ < ss.length; omega)⟩, ⟨by show (0 : Int) ≤ b; omega, by show b < (l.length : Int); omega⟩, _, rfl, .int .i64 (ss.getD b.toNat 0), .inr ⟨1, _, _, _, _, b.toNat, rfl, rfl, cellAddr _ _, cellsO_get _ _ (by show _ < ss.length; omega)⟩, rfl, _, (i64_in (ss.getD a.toNat 0 + ss.getD b.toNat 0) ⟨by omega, by omega⟩).symm, rfl, _, (i64_in (ss.getD a.toNat 0 + ss.getD b.toNat 0 + 1) ⟨by omega, by omega⟩).symm, ⟨by omega, hq⟩, _, rfl, ?_⟩
      refine ⟨1, _, _, _, _, ss.length, rfl, rfl, cellAddr _ _, rfl, one_iv _, cells_le _ ss rfl hil, rfl, ?_⟩
      refine ⟨⟨by show (0 : Int) ≤ a; omega, by show a < (l.length : Int); omega⟩, _, rfl, .int .i64 (ds.getD a.toNat 0), .inr ⟨0, _, _, _, _, a.toNat, rfl, rfl, cellAddr _ _, cellsO_get _ _ (by show _ < ds.length; omega)⟩, ⟨by show (0 : Int) ≤ b; omega, by show b < (l.length : Int); omega⟩, _, rfl, .int .i64 (ds.getD b.toNat 0), .inr ⟨0, _, _, _, _, b.toNat, rfl, rfl, cellAddr _ _, cellsO_get _ _ (by show _ < ds.length; omega)⟩, rfl, rfl, _, (i64_in ((if ds.getD a.toNat 0 ≤ ds.getD b.toNat 0 then ds.getD b.toNat 0 else ds.getD a.toNat 0) + 1) ⟨by split <;> omega, by split <;> omega⟩).symm, ⟨by omega, hq⟩, _, rfl, ?_⟩
      refine ⟨0, _, _, _, _, ss.length, rfl, rfl, cellAddr _ _, rfl, one_iv _, cells_le _ ds hds.symm (by omega), rfl, ?_⟩
      refine ⟨rfl, _, wi.symm, (ss ++ [ss.getD a.toNat 0 + ss.getD b.toNat 0 + 1], ds ++ [(if ds.getD a.toNat 0 ≤ ds.getD b.toNat 0 then ds.getD b.toNat 0 else ds.getD a.toNat 0) + 1]), all_sl ⟨by rw [List.length_append]; (first | done | rfl), trivial⟩, rfl, ole_eq ?_, ⟨by simp; omega, by simp [hds], hF.snoc f1, hG.snoc (by rw [hds]; exact f2), ?_⟩, by simp; omega⟩
      · have eS := cellsO_set' l.length ss (ss.getD a.toNat 0 + ss.getD b.toNat 0 + 1) rfl hil
        have eD := cellsO_set' l.length ds ((if ds.getD a.toNat 0 ≤ ds.getD b.toNat 0 then ds.getD b.toNat 0 else ds.getD a.toNat 0) + 1) (j := ss.length) hds.symm (by omega)
        simp only [cellsO]
        rw [← eS, ← eD]; (first | done | rfl)
      · rw [List.length_append]; exact good _ _ hst
end Go.Proofs.YtcgbcbdgjhnlaaaGreat

namespace Go.Proofs.YtcgbcbdgjhnlaaaGreat
open Go.RowKit

def muchN (r : RelS) : Bool := decide (8 < r.types.length) || (decide (64 < r.nodes.length) || decide (16 < deepN r.nodes))
def okRel (r : RelS) : Prop := r.nodes.length ≤ 100000 ∧ ∀ n ∈ r.nodes, n.small
theorem much_x : PredL RelR 74 muchN okRel := by
  intro r cs W hok hR
  obtain ⟨tv, nv, rfl, hT, hN⟩ := hR
  obtain ⟨a1, c1, rfl, _, _⟩ := hT.form
  obtain ⟨a2, c2, rfl, _, _⟩ := hN.form
  refine pureX hmix Tryz.func74 r74 (by kernel_rfl) [.agg ⟨[strV r.name, .slice a1 r.types.length c1, .slice a2 r.nodes.length c2]⟩] rfl ?_
  refine ⟨rfl, br_split (fun h8 => ?_) (fun h8 => ?_)⟩
  · have h8 : (8 : Int) < r.types.length := h8
    refine ret_plain rfl fun _ _ => ?_
    unfold muchN; rw [decide_eq_true (show 8 < r.types.length by omega)]; (first | done | rfl)
  have h8 : ¬ (8 : Int) < r.types.length := h8
  refine ⟨rfl, ?_⟩
  apply br_split
  · intro h64
    have h64 : (64 : Int) < r.nodes.length := h64
    refine ret_plain rfl fun _ _ => ?_
    unfold muchN; rw [decide_eq_true (show 64 < r.nodes.length by omega)]; simp
  intro h64
  have h64 : ¬ (64 : Int) < r.nodes.length := h64
  refine call_v rfl (fun W' lw => deep_x r.nodes _ hok.1 hok.2 W' (hN.mono lw)) (fun W3 v W4 _ _ hv => ?_)
  subst hv
  refine ⟨rfl, ret_plain rfl fun _ _ => ?_⟩
  unfold muchN
  rw [decide_eq_false (show ¬ 8 < r.types.length by omega), decide_eq_false (show ¬ 64 < r.nodes.length by omega)]; (first | done | rfl)
end Go.Proofs.YtcgbcbdgjhnlaaaGreat

namespace Go.Proofs.YtcgbcbdgjhnlaaaGreat
open Go.RowKit

def fewS (s : SpaceS) : Bool := !(decide (16 < s.rels.length) || s.rels.any muchN)
def withinN (c : ConfS) : Bool := (!decide (16 < c.spaces.length) && !decide (16 < c.scopes.length)) && c.spaces.all fewS
def okSpace (s : SpaceS) : Prop := s.rels.length ≤ 100000 ∧ ∀ r ∈ s.rels, okRel r
set_option maxHeartbeats 2000000 in
theorem within_rule_x (x : ConfS) (cs : List Value) (hl : x.spaces.length ≤ 100000) (hok : ∀ s ∈ x.spaces, okSpace s) (W : PW) (h : ConfR W x cs) : CallsX Tryz.prog 54 ⟨[.agg ⟨cs⟩]⟩ [] W fun v _ => v = .bool (withinN x) := by
  obtain ⟨sv, kv, rfl, hS, hK⟩ := h
  obtain ⟨a1, c1, rfl, _, _⟩ := hS.form
  obtain ⟨a2, c2, rfl, _, _⟩ := hK.form
  refine pureX hmix Tryz.func54 r54 (by kernel_rfl) [.agg ⟨[.slice a1 x.spaces.length c1, .slice a2 x.scopes.length c2]⟩] rfl ?_
  refine ⟨rfl, br_split (fun h1 => ?_) (fun h1 => ?_)⟩
  · have h1 : (16 : Int) < x.spaces.length := h1
    refine ret_plain rfl fun _ _ => ?_
    unfold withinN; rw [decide_eq_true (show 16 < x.spaces.length by omega)]; (first | done | rfl)
  have h1 : ¬ (16 : Int) < x.spaces.length := h1
  refine ⟨rfl, ?_⟩
  apply br_split
  · intro h2
    have h2 : (16 : Int) < x.scopes.length := h2
    refine ret_plain rfl fun _ _ => ?_
    unfold withinN; rw [decide_eq_true (show 16 < x.scopes.length by omega)]; simp
  intro h2
  have h2 : ¬ (16 : Int) < x.scopes.length := h2
  have hW : withinN x = x.spaces.all fewS := by
    unfold withinN; rw [decide_eq_false (show ¬ 16 < x.spaces.length by omega), decide_eq_false (show ¬ 16 < x.scopes.length by omega)]; (first | done | rfl)
  rw [hW]
  refine ⟨Nat, fun i => [(18, .v (.int .i64 i))], fun _ => [[.v (.slice a1 x.spaces.length c1), .v (.slice a2 x.scopes.length c2)]], fun _ => [], fun i _ => i ≤ x.spaces.length ∧ ∀ y ∈ x.spaces.take i, fewS y = true, fun i => x.spaces.length - i, 0,
    all_sl ⟨rfl, trivial⟩, rfl, ole_refl _, ⟨Nat.zero_le _, by simp⟩, loopOK (fun _ => ⟨⟨trivial, rfl⟩, trivial⟩) (fun _ => rfl) (fun _ => rfl), ?_⟩
  rintro i W1 l1 ⟨hi, hI⟩ fr
  refine ⟨rfl, br_split (fun hq => ?_) (fun hq => ?_)⟩
  rotate_left
  · have hq : ¬ (i : Int) < x.spaces.length := hq
    rw [List.take_of_length_le (by omega)] at hI
    exact ret_plain rfl fun _ _ => by rw [List.all_eq_true.2 hI]
  have hq : (i : Int) < x.spaces.length := hq
  obtain ⟨pc, rfl, s, ds, hx, hcl, ⟨rv, hds, hR⟩, _, hrd⟩ := hS.at SpR.mono l1 (j := i) ⟨by omega, hq⟩
  have hx : x.spaces[i]? = some s := hx
  have hm := List.mem_of_getElem? hx
  obtain ⟨o1, o2⟩ := hok s hm
  obtain ⟨a3, c3, rfl, _, _⟩ := hR.form
  subst hds
  have no : fewS s = false → x.spaces.all fewS = false := fun e => by
    rw [Bool.eq_false_iff, ne_eq, List.all_eq_true]
    intro h; rw [h s hm] at e; cases e
  refine ⟨⟨by omega, hq⟩, pc, rfl, [strV s.name, .slice a3 s.rels.length c3], rfl, hrd.o, rfl, br_split (fun h3 => ?_) (fun h3 => ?_)⟩
  · have h3 : (16 : Int) < s.rels.length := h3
    refine ret_plain rfl fun _ _ => ?_
    rw [no (by unfold fewS; rw [decide_eq_true (show 16 < s.rels.length by omega)]; (first | done | rfl))]
  have h3 : ¬ (16 : Int) < s.rels.length := h3
  refine call_v rfl (fun W' lw => anyrel_x much_x s.rels o2 _ (by omega) W' (hR.mono RelR.mono lw)) (fun W3 v W4 _ _ hv => ?_)
  obtain ⟨b, hb, rfl⟩ : ∃ b, s.rels.any muchN = b ∧ v = .bool b := ⟨_, rfl, hv⟩
  have hf : fewS s = !b := by unfold fewS; rw [decide_eq_false (show ¬ 16 < s.rels.length by omega), hb]; (first | done | rfl)
  cases b with
  | true =>
    refine ret_plain rfl fun _ _ => ?_
    rw [no hf]
  | false =>
    refine ⟨rfl, _, (i64_in ((i : Int) + 1) ⟨by omega, by omega⟩).symm, i + 1, all_sl ⟨rfl, trivial⟩, rfl, ole_refl _, ⟨by omega, fun y hy => ?_⟩, by dsimp only; omega⟩
    rw [List.take_add_one, hx] at hy
    rcases List.mem_append.1 hy with hy | hy
    · exact hI y hy
    · simp at hy; subst hy; exact hf
end Go.Proofs.YtcgbcbdgjhnlaaaGreat

namespace Go.Proofs.YtcgbcbdgjhnlaaaGreat

def PB (p : PS) : Prop := ∀ x ∈ p.l, x.t.length ≤ 16384
def NSm (l : List NodeS) : Prop := ∀ n ∈ l, n.rel.length ≤ 16384 ∧ n.thn.length ≤ 16384
theorem NSm.small {l : List NodeS} (h : NSm l) : ∀ n ∈ l, n.small := fun n hn => ⟨Nat.le_trans (h n hn).1 (by decide), Nat.le_trans (h n hn).2 (by decide)⟩
theorem NSm.nil : NSm [] := fun n hn => by cases hn
theorem NSm.snoc {l : List NodeS} (h : NSm l) {x : NodeS} (h1 : x.rel.length ≤ 16384) (h2 : x.thn.length ≤ 16384) : NSm (l ++ [x]) := by
  intro n hn
  rcases List.mem_append.1 hn with hn | hn
  · exact h n hn
  · rw [List.mem_singleton.1 hn]; exact ⟨h1, h2⟩
theorem PB.bad : PB PS.bad := fun x hx => by cases hx
theorem PB.tail {p : PS} (h : PB p) : PB p.tail := fun x hx => h x (List.mem_of_mem_tail hx)
theorem PB.must (s : List UInt8) {p : PS} (h : PB p) : PB (mustS s p) := by
  unfold mustS; split
  · exact h.tail
  · exact .bad
theorem PB.tk (s : List UInt8) {p : PS} (h : PB p) : PB (tkS s p) := by
  unfold tkS; split
  · exact h.tail
  · exact h
theorem PB.wd {p : PS} (h : PB p) : PB (wdS p) := by
  unfold wdS; split
  · exact h.tail
  · exact .bad
theorem PB.wdV {p : PS} (h : PB p) : (wdV p).length ≤ 16384 := by
  unfold Go.Proofs.YtcgbcbdgjhnlaaaGreat.wdV
  split
  · rename_i x r e
    split
    · exact h x (by rw [e]; exact List.mem_cons_self ..)
    · exact Nat.zero_le _
  · exact Nat.zero_le _
theorem PB.op {p : PS} (h : PB p) : PB (opS p) := by
  unfold opS; split
  · exact h.tail
  · exact h.tk _
theorem PB.kind {p : PS} (h : PB p) : PB (kindS p) := by
  unfold kindS; split
  · exact h.tail
  · exact (h.wd.must _).wd
def GoodG (g : List NodeS → PS → NP) : Prop := ∀ l p, PB p → NSm l → NSm (g l p).1 ∧ PB (g l p).2
theorem joinN_small (k : Nat) (l : List NodeS) {l' : List NodeS} (h : NSm l') : NSm (joinN k l l') := h.snoc (Nat.zero_le _) (Nat.zero_le _)
theorem fac_good {ex : List NodeS → PS → NP} (h : GoodG ex) : GoodG (facN ex) := by
  intro l p hp hl
  unfold facN
  split
  · exact ⟨hl.snoc (Nat.zero_le _) (Nat.zero_le _), hp.tail⟩
  · split
    · obtain ⟨h1, h2⟩ := h l p.tail hp.tail hl
      exact ⟨h1, h2.must _⟩
    · split
      · exact ⟨hl.snoc hp.wdV hp.wd.tail.wdV, hp.wd.tail.wd⟩
      · exact ⟨hl.snoc hp.wdV (Nat.zero_le _), hp.wd⟩
theorem termL_good {fac : List NodeS → PS → NP} (h : GoodG fac) : ∀ m : Nat, GoodG (termL fac m)
  | 0, l, p, hp, hl => ⟨hl, hp⟩
  | m + 1, l, p, hp, hl => by
    simp only [termL]
    split
    · obtain ⟨h1, h2⟩ := h l p.tail hp.tail hl
      exact termL_good h m _ _ h2 (joinN_small 5 l h1)
    · exact ⟨hl, hp⟩
theorem term_good {ex : List NodeS → PS → NP} (h : GoodG ex) : GoodG (termN ex) := fun l p hp hl => by
  obtain ⟨h1, h2⟩ := fac_good h l p hp hl
  exact termL_good (fac_good h) _ _ _ h2 h1
theorem exprL_good {te : List NodeS → PS → NP} (h : GoodG te) : ∀ m : Nat, GoodG (exprL te m)
  | 0, l, p, hp, hl => ⟨hl, hp⟩
  | m + 1, l, p, hp, hl => by
    simp only [exprL]
    split
    · obtain ⟨h1, h2⟩ := h l (opS p) hp.op hl
      exact exprL_good h m _ _ h2 (joinN_small _ l h1)
    · exact ⟨hl, hp.op⟩
theorem expr_good : ∀ n : Nat, GoodG (exprN n)
  | 0, l, p, hp, hl => ⟨hl, hp⟩
  | n + 1, l, p, hp, hl => by
    have ht := term_good (expr_good n)
    obtain ⟨h1, h2⟩ := ht l p hp hl
    simp only [exprN]
    exact exprL_good ht _ _ _ h2 h1
/-- Types whose texts are not great. -/
def TSm (ts : List TypS) : Prop := ∀ t ∈ ts, t.space.length ≤ 16384 ∧ t.rel.length ≤ 16384
theorem TSm.snoc {ts : List TypS} (h : TSm ts) {t : TypS} (h1 : t.space.length ≤ 16384 ∧ t.rel.length ≤ 16384) : TSm (ts ++ [t]) := by
  intro n hn
  rcases List.mem_append.1 hn with hn | hn
  · exact h n hn
  · rw [List.mem_singleton.1 hn]; exact h1
theorem PB.kindV {p : PS} (h : PB p) : (kindV p).space.length ≤ 16384 ∧ (kindV p).rel.length ≤ 16384 := by
  unfold Go.Proofs.YtcgbcbdgjhnlaaaGreat.kindV
  split
  · exact ⟨Nat.zero_le _, Nat.zero_le _⟩
  · exact ⟨h.wdV, (h.wd.must _).wdV⟩
theorem typesL_good : ∀ (m : Nat) (ts : List TypS) (p : PS), PB p → TSm ts → TSm (typesL m ts p).1 ∧ PB (typesL m ts p).2 ∧ (typesL m ts p).1.length + (typesL m ts p).2.l.length ≤ ts.length + p.l.length
  | 0, ts, p, hp, h => ⟨h, hp, Nat.le_refl _⟩
  | m + 1, ts, p, hp, h => by
    simp only [typesL]
    split
    · rename_i h1
      have h2 := take_pos h1
      have h3 := kind_le p.tail
      obtain ⟨a, b, c⟩ := typesL_good m (ts ++ [kindV p.tail]) (kindS p.tail) hp.tail.kind (h.snoc hp.tail.kindV)
      refine ⟨a, b, ?_⟩
      rw [List.length_append, List.length_singleton] at c; omega
    · exact ⟨h, hp, Nat.le_refl _⟩
theorem types_good (p : PS) (hp : PB p) : TSm (typesN p).1 ∧ PB (typesN p).2 ∧ (typesN p).1.length + (typesN p).2.l.length ≤ p.l.length := by
  unfold typesN
  split
  · rename_i h1
    have h2 := take_pos h1
    have h3 := kind_le p.tail
    obtain ⟨a, b, c⟩ := typesL_good (kindS p.tail).l.length [kindV p.tail] (kindS p.tail) hp.tail.kind (by intro t ht; rw [List.mem_singleton.1 ht]; exact hp.tail.kindV)
    refine ⟨a, b, ?_⟩
    rw [List.length_singleton] at c; omega
  · exact ⟨fun t ht => (by cases ht), hp, by simp⟩
theorem nodes_good (p : PS) (hp : PB p) (hl : p.l.length ≤ 16384) : NSm (nodesN p).1 ∧ PB (nodesN p).2 ∧ (nodesN p).1.length ≤ 40000 := by
  unfold nodesN
  split
  · rename_i h1
    have h2 := take_pos h1
    obtain ⟨a, b⟩ := expr_good p.l.length [] p.tail hp.tail .nil
    have c := (expr_fit p.l.length [] p.tail (by omega)).1
    refine ⟨a, b, ?_⟩
    simp only [sz, List.length_nil] at c; omega
  · refine ⟨?_, hp, by simp⟩
    intro n hn; rw [List.mem_singleton.1 hn]; exact ⟨Nat.zero_le _, Nat.zero_le _⟩
/-- A relation that is not great. -/
def okR (r : RelS) : Prop := r.name.length ≤ 16384 ∧ TSm r.types ∧ r.types.length ≤ 16384 ∧ NSm r.nodes ∧ r.nodes.length ≤ 40000
theorem okR.rel {r : RelS} (h : okR r) : okRel r := ⟨by have := h.2.2.2.2; omega, h.2.2.2.1.small⟩
theorem rel_good (p : PS) (hp : PB p) (hl : p.l.length ≤ 16384) : okR (relN p).1 ∧ PB (relN p).2 := by
  obtain ⟨a1, b1, c1⟩ := types_good (wdS p) hp.wd
  have := wd_le p
  have := types_le (wdS p)
  obtain ⟨a2, b2, c2⟩ := nodes_good (typesN (wdS p)).2 b1 (by omega)
  exact ⟨⟨hp.wdV, a1, by show (typesN (wdS p)).1.length ≤ _; omega, a2, c2⟩, b2.must _⟩
theorem relsL_good : ∀ (m : Nat) (rs : List RelS) (p : PS), PB p → rs.length + p.l.length ≤ 16384 → (∀ r ∈ rs, okR r) → (∀ r ∈ (relsL m rs p).1, okR r) ∧ PB (relsL m rs p).2 ∧ (relsL m rs p).1.length ≤ 16384
  | 0, rs, p, hp, hl, h => ⟨h, hp, by show rs.length ≤ _; omega⟩
  | m + 1, rs, p, hp, hl, h => by
    simp only [relsL]
    split
    · rename_i h1
      have h2 := take_pos h1
      have h3 := rel_le p.tail
      obtain ⟨a, b⟩ := rel_good p.tail hp.tail (by omega)
      refine relsL_good m _ _ b (by simp only [List.length_append, List.length_singleton]; omega) fun r hr => ?_
      rcases List.mem_append.1 hr with hr | hr
      · exact h r hr
      · rw [List.mem_singleton.1 hr]; exact a
    · exact ⟨h, hp, by show rs.length ≤ _; omega⟩
def okSp (s : SpaceS) : Prop := s.name.length ≤ 16384 ∧ s.rels.length ≤ 16384 ∧ ∀ r ∈ s.rels, okR r
theorem okSp.space {s : SpaceS} (h : okSp s) : okSpace s := ⟨by have := h.2.1; omega, fun r hr => (h.2.2 r hr).rel⟩
theorem space_good (p : PS) (hp : PB p) (hl : p.l.length ≤ 16384) : okSp (spaceN p).1 ∧ PB (spaceN p).2 := by
  have := wd_le p
  have := must_le [123] (wdS p)
  obtain ⟨a, b, c⟩ := relsL_good (mustS [123] (wdS p)).l.length [] (mustS [123] (wdS p)) (hp.wd.must _) (by simp only [List.length_nil]; omega) fun r hr => by cases hr
  exact ⟨⟨hp.wdV, c, a⟩, b.must _⟩
theorem cutA_le (s : List UInt8) : (cutA s).1.length ≤ s.length ∧ (cutA s).2.length ≤ s.length := by
  unfold cutA
  split
  · rename_i a b h
    have := cutL_len h
    exact ⟨by dsimp only; omega, by dsimp only; omega⟩
  · exact ⟨Nat.le_refl _, Nat.zero_le _⟩
theorem refM_small (s : List UInt8) (h : s.length ≤ 1000000) : (refM s).small := by
  cases hr : refP s with
  | none => simp only [refM, hr]; exact ⟨Nat.zero_le _, Nat.zero_le _⟩
  | some r =>
    have := congrArg List.length (refP_some hr).1
    simp only [refT, List.length_append, List.length_cons] at this
    simp only [refM, hr]
    exact ⟨by omega, by omega⟩
theorem noRef_small : noRef.small := ⟨Nat.zero_le _, Nat.zero_le _⟩
def okSc (s : ScopeS) : Prop := s.name.length ≤ 16384 ∧ s.object.small ∧ s.rel.length ≤ 16384
theorem txt_le {p : PS} (h : PB p) : (txtOf p).length ≤ 16384 := by
  unfold txtOf
  split
  · rename_i x r e; exact h x (by rw [e]; exact List.mem_cons_self ..)
  · exact Nat.zero_le _
theorem scope_good (p : PS) (hp : PB p) : okSc (scopeN p).1 ∧ PB (scopeN p).2 := by
  have h0 := txt_le (hp.wd.must [61])
  have h1 := cutA_le (txtOf (mustS [61] (wdS p)))
  unfold scopeN
  split
  · exact ⟨⟨hp.wdV, refM_small _ (by omega), by show (cutA (txtOf (mustS [61] (wdS p)))).2.length ≤ _; omega⟩, ((hp.wd.must _).tail).must _⟩
  · exact ⟨⟨hp.wdV, noRef_small, Nat.zero_le _⟩, .bad⟩
structure okC (c : ConfS) : Prop where
  n : c.spaces.length ≤ 16384
  m : c.scopes.length ≤ 16384
  sp : ∀ s ∈ c.spaces, okSp s
  sc : ∀ s ∈ c.scopes, okSc s
theorem confL_good : ∀ (m : Nat) (c : ConfS) (p : PS), PB p → c.spaces.length + c.scopes.length + p.l.length ≤ 16384 → (∀ s ∈ c.spaces, okSp s) → (∀ s ∈ c.scopes, okSc s) → okC (confL m c p).1
  | 0, c, p, hp, hl, h1, h2 => ⟨by show c.spaces.length ≤ _; omega, by show c.scopes.length ≤ _; omega, h1, h2⟩
  | m + 1, c, p, hp, hl, h1, h2 => by
    simp only [confL]
    split
    · exact ⟨by dsimp only; omega, by dsimp only; omega, h1, h2⟩
    · split
      · rename_i h
        have ht := take_pos h
        have hs := space_le p.tail
        obtain ⟨a, b⟩ := space_good p.tail hp.tail (by omega)
        refine confL_good m _ _ b (by simp only [List.length_append, List.length_singleton]; omega) (fun r hr => ?_) h2
        rcases List.mem_append.1 hr with hr | hr
        · exact h1 r hr
        · rw [List.mem_singleton.1 hr]; exact a
      · split
        · rename_i h
          have ht := take_pos h
          have hs := scope_le p.tail
          obtain ⟨a, b⟩ := scope_good p.tail hp.tail
          refine confL_good m _ _ b (by simp only [List.length_append, List.length_singleton]; omega) h1 (fun r hr => ?_)
          rcases List.mem_append.1 hr with hr | hr
          · exact h2 r hr
          · rw [List.mem_singleton.1 hr]; exact a
        · exact confL_good m _ _ .bad (by show _ + 0 ≤ _; omega) h1 h2
theorem conf_good (p : PS) (hp : PB p) (hl : p.l.length ≤ 16384) : okC (confN p).1 := confL_good _ _ _ hp (by simp only [List.length_nil]; omega) (fun s hs => by cases hs) fun s hs => by cases hs
theorem lexA_b (s : List UInt8) : (lexA s).1.length ≤ 16384 ∧ ∀ x ∈ (lexA s).1, x.t.length ≤ 16384 := by
  unfold lexA
  split
  · exact ⟨Nat.zero_le _, fun x hx => by cases hx⟩
  · split
    · rename_i h1 l h
      refine ⟨by have := (lexF_cnt _ _ _ h).1; dsimp only; omega, fun x hx => by have := lexF_tlen _ _ _ h x hx; omega⟩
    · exact ⟨Nat.zero_le _, fun x hx => by cases hx⟩
end Go.Proofs.YtcgbcbdgjhnlaaaGreat

namespace Go.Proofs.YtcgbcbdgjhnlaaaGreat
open Go.RowKit

def noConf : ConfS := ⟨[], []⟩
/-- A text's configuration; what is wrong: 0, 4, 5, 25. -/
def ruleP (s : List UInt8) : ConfS × Int :=
  if (lexA s).2 = 0 then
    if nestL 0 (lexA s).1 then (noConf, 5)
    else if (confN ⟨(lexA s).1, false⟩).2.f then (noConf, 4)
    else if withinN (confN ⟨(lexA s).1, false⟩).1 then ((confN ⟨(lexA s).1, false⟩).1, 0) else (noConf, 25)
  else (noConf, (lexA s).2)
theorem ConfR.no (W : PW) : ConfR W noConf [.slice none 0 0, .slice none 0 0] := ⟨_, _, rfl, RL.nil _ _ _, RP.nil _ _⟩
set_option maxHeartbeats 2000000 in
theorem ruleparse_x (s : List UInt8) (W : PW) : CallsX Tryz.prog 36 ⟨[strV s]⟩ [] W fun v W' => ∃ cells, v = .tuple ⟨[.agg ⟨cells⟩, .int .i64 (ruleP s).2]⟩ ∧ ConfR W' (ruleP s).1 cells := by
  obtain ⟨b1, b2⟩ := lexA_b s
  refine pureX hmix Tryz.func36 r36 (by kernel_rfl) [strV s] rfl ?_
  refine call_v rfl (fun W' _ => lex_x s W') (fun W3 v W4 _ _ ⟨u, hv, hr⟩ => ?_)
  obtain ⟨e, he, rfl⟩ : ∃ e, (lexA s).2 = e ∧ v = .tuple ⟨[u, .int .i64 e]⟩ := ⟨_, rfl, hv⟩
  obtain ⟨A, c, rfl, _, _⟩ := hr.form
  refine ⟨_, rfl, _, rfl, rfl, br_nsplit (fun h0 => ?_) (fun h0 => ?_)⟩
  · have h0 : ¬ e = 0 := h0
    have er : ruleP s = (noConf, e) := by unfold ruleP; rw [if_neg (by rw [he]; exact h0), he]
    refine ret_plain rfl fun W' _ => ?_
    rw [er]; exact ⟨_, rfl, ConfR.no _⟩
  have h0 : e = 0 := h0
  refine call_v rfl (fun W' lw => nested_x s.length (lexA s).1 _ b1 W' (hr.mono lw)) (fun W5 v W6 l5 l6 hv => ?_)
  obtain ⟨b, hb, rfl⟩ : ∃ b, nestL 0 (lexA s).1 = b ∧ v = .bool b := ⟨_, rfl, hv⟩
  cases b with
  | true =>
    have er : ruleP s = (noConf, 5) := by unfold ruleP; rw [if_pos (by rw [he]; exact h0), if_pos hb]
    refine ret_plain rfl fun W' _ => ?_
    rw [er]; exact ⟨_, rfl, ConfR.no _⟩
  | false =>
    refine call_m1 (k := 1) rfl rfl rfl rfl k53 (fun g' W7 l7 how => (rconf_x s.length ⟨(lexA s).1, false⟩ g' W7 ⟨A, c, how, hr.mono (l5.trans (l6.trans l7)), fun h => (by cases h), b1, b2⟩).mono fun v W8 ⟨cells, hv, hC, A8, c8, ho8, hr8, hf8, hb8⟩ l8 => ⟨_, ho8, ?_⟩)
    have hgood := conf_good ⟨(lexA s).1, false⟩ b2 b1
    obtain ⟨sv, kv, rfl, hS, hK⟩ := hC
    obtain ⟨a1, c1, rfl, _, _⟩ := hS.form
    obtain ⟨a2, c2, rfl, _, _⟩ := hK.form
    have hC : ConfR W8 (confN ⟨(lexA s).1, false⟩).1 _ := ⟨_, _, rfl, hS, hK⟩
    subst hv
    obtain ⟨f, hf, hff⟩ : ∃ f, (confN ⟨(lexA s).1, false⟩).2.f = f ∧ f = (confN ⟨(lexA s).1, false⟩).2.f := ⟨_, rfl, rfl⟩
    refine br_bool (fun h1 => ?_) (fun h1 => ?_)
    · have er : ruleP s = (noConf, 4) := by unfold ruleP; rw [if_pos (by rw [he]; exact h0), if_neg (by rw [hb]; exact Bool.false_ne_true), if_pos h1]
      refine ret_plain rfl fun W' _ => ?_
      rw [er]; exact ⟨_, rfl, ConfR.no _⟩
    · refine call_v rfl (fun W' lw => within_rule_x _ _ (by have := hgood.n; omega) (fun x hx => (hgood.sp x hx).space) W' (hC.mono _ _ _ _ lw)) (fun W9 v W10 l9 l10 hv => ?_)
      obtain ⟨b, hbw, rfl⟩ : ∃ b, withinN (confN ⟨(lexA s).1, false⟩).1 = b ∧ v = .bool b := ⟨_, rfl, hv⟩
      cases b with
      | true =>
        have er : ruleP s = ((confN ⟨(lexA s).1, false⟩).1, 0) := by unfold ruleP; rw [if_pos (by rw [he]; exact h0), if_neg (by rw [hb]; exact Bool.false_ne_true), if_neg (by rw [h1]; exact Bool.false_ne_true), if_pos hbw]
        refine ret_plain rfl fun W' l => ?_
        rw [er]
        exact ⟨_, rfl, ConfR.mono _ _ _ _ (l9.trans (l10.trans l)) hC⟩
      | false =>
        have er : ruleP s = (noConf, 25) := by unfold ruleP; rw [if_pos (by rw [he]; exact h0), if_neg (by rw [hb]; exact Bool.false_ne_true), if_neg (by rw [h1]; exact Bool.false_ne_true), if_neg (by rw [hbw]; exact Bool.false_ne_true)]
        refine ret_plain rfl fun W' _ => ?_
        rw [er]; exact ⟨_, rfl, ConfR.no _⟩
end Go.Proofs.YtcgbcbdgjhnlaaaGreat

namespace Go.Proofs.YtcgbcbdgjhnlaaaGreat
open Go.RowKit

/-- The same of elements that hold no lists. -/
def PredP {α : Type} (f : α → List Value) (fid : FuncId) (q : α → Bool) (ok : α → Prop) : Prop := ∀ (x : α) (W : PW), ok x → CallsX Tryz.prog fid ⟨[.agg ⟨f x⟩]⟩ [] W fun v _ => v = .bool (q x)
/-- slices.IndexFunc over types. -/
theorem idxtyp_x {q : TypS → Bool} {fid : FuncId} {ok : TypS → Prop} (hp : PredP typC fid q ok) (l : List TypS) (hok : ∀ x ∈ l, ok x) (u : Value) (hl : l.length ≤ 1000000) (W : PW) (h : RP typC W u l) :
    CallsX Tryz.prog 80 ⟨[u, .func (.func fid) #[] #[]]⟩ [] W fun v _ => v = .int .i64 (idxL q l) := by
  obtain ⟨A, c, rfl, _, _⟩ := h.form
  refine pureX hmix Tryz.func80 r80 (by kernel_rfl) [.slice A l.length c, .func (.func fid) #[] #[]] rfl ?_
  refine ⟨Nat, fun i => [(8, .v (.int .i64 i))], fun _ => [], fun _ => [], fun i _ => i ≤ l.length ∧ ∀ y ∈ l.take i, q y = false, fun i => l.length - i, 0,
    all_sl ⟨rfl, trivial⟩, rfl, ole_refl _, ⟨Nat.zero_le _, by simp⟩, loopOK (fun _ => ⟨⟨trivial, rfl⟩, trivial⟩) (fun _ => rfl) (fun _ => rfl), ?_⟩
  rintro i W1 l1 ⟨hi, hI⟩ fr
  refine ⟨rfl, br_split (fun hq => ?_) (fun hq => ?_)⟩
  rotate_left
  · have hq : ¬ (i : Int) < l.length := hq
    rw [List.take_of_length_le (by omega)] at hI
    exact ret_plain rfl fun _ _ => by rw [idxL_none q hI]
  have hq : (i : Int) < l.length := hq
  obtain ⟨pc, rfl, x, hx, _, _, hrd⟩ := h.at (sz := 2) (fun _ => rfl) l1 (j := i) ⟨by omega, hq⟩
  have hx : l[i]? = some x := hx
  obtain ⟨d1, d2⟩ := idxL_drop q hx hI
  refine ⟨⟨by omega, hq⟩, pc, rfl, typC x, rfl, hrd.o, ?_⟩
  refine call_v rfl (fun W' lw => hp x W' (hok x (List.mem_of_getElem? hx))) (fun W3 v W4 _ _ hv => ?_)
  obtain ⟨b, hb, rfl⟩ : ∃ b, q x = b ∧ v = .bool b := ⟨_, rfl, hv⟩
  cases b with
  | true => exact ret_plain rfl fun _ _ => by rw [d1 hb]
  | false => exact ⟨rfl, _, (i64_in ((i : Int) + 1) ⟨by omega, by omega⟩).symm, i + 1, all_sl ⟨rfl, trivial⟩, rfl, ole_refl _, ⟨by omega, d2 hb⟩, by dsimp only; omega⟩
theorem anytyp_x {q : TypS → Bool} {fid : FuncId} {ok : TypS → Prop} (hp : PredP typC fid q ok) (l : List TypS) (hok : ∀ x ∈ l, ok x) (u : Value) (hl : l.length ≤ 1000000) (W : PW) (h : RP typC W u l) :
    CallsX Tryz.prog 57 ⟨[u, .func (.func fid) #[] #[]]⟩ [] W fun v _ => v = .bool (l.any q) := by
  refine pureX hmix Tryz.func57 r57 (by kernel_rfl) [u, .func (.func fid) #[] #[]] rfl ?_
  refine call_v rfl (fun W' lw => idxtyp_x hp l hok u hl W' (h.mono lw)) (fun W3 v W4 _ _ hv => ?_)
  obtain ⟨k, hk, rfl⟩ : ∃ k, idxL q l = k ∧ v = .int .i64 k := ⟨_, rfl, hv⟩
  obtain ⟨_, h2⟩ := idxL_any q l
  refine ⟨rfl, ret_plain rfl fun _ _ => ?_⟩
  show Value.bool (decide (0 ≤ k)) = _
  rw [← hk]
  congr 1
  rw [Bool.eq_iff_iff, decide_eq_true_eq]; exact h2
/-- slices.IndexFunc over scopes. -/
theorem idxscp_x {q : ScopeS → Bool} {fid : FuncId} {ok : ScopeS → Prop} (hp : PredP scopeC fid q ok) (l : List ScopeS) (hok : ∀ x ∈ l, ok x) (u : Value) (hl : l.length ≤ 1000000) (W : PW) (h : RP scopeC W u l) :
    CallsX Tryz.prog 81 ⟨[u, .func (.func fid) #[] #[]]⟩ [] W fun v _ => v = .int .i64 (idxL q l) := by
  obtain ⟨A, c, rfl, _, _⟩ := h.form
  refine pureX hmix Tryz.func81 r81 (by kernel_rfl) [.slice A l.length c, .func (.func fid) #[] #[]] rfl ?_
  refine ⟨Nat, fun i => [(8, .v (.int .i64 i))], fun _ => [], fun _ => [], fun i _ => i ≤ l.length ∧ ∀ y ∈ l.take i, q y = false, fun i => l.length - i, 0,
    all_sl ⟨rfl, trivial⟩, rfl, ole_refl _, ⟨Nat.zero_le _, by simp⟩, loopOK (fun _ => ⟨⟨trivial, rfl⟩, trivial⟩) (fun _ => rfl) (fun _ => rfl), ?_⟩
  rintro i W1 l1 ⟨hi, hI⟩ fr
  refine ⟨rfl, br_split (fun hq => ?_) (fun hq => ?_)⟩
  rotate_left
  · have hq : ¬ (i : Int) < l.length := hq
    rw [List.take_of_length_le (by omega)] at hI
    exact ret_plain rfl fun _ _ => by rw [idxL_none q hI]
  have hq : (i : Int) < l.length := hq
  obtain ⟨pc, rfl, x, hx, _, _, hrd⟩ := h.at (sz := 4) (fun _ => rfl) l1 (j := i) ⟨by omega, hq⟩
  have hx : l[i]? = some x := hx
  obtain ⟨d1, d2⟩ := idxL_drop q hx hI
  refine ⟨⟨by omega, hq⟩, pc, rfl, scopeC x, rfl, hrd.o, ?_⟩
  refine call_v rfl (fun W' lw => hp x W' (hok x (List.mem_of_getElem? hx))) (fun W3 v W4 _ _ hv => ?_)
  obtain ⟨b, hb, rfl⟩ : ∃ b, q x = b ∧ v = .bool b := ⟨_, rfl, hv⟩
  cases b with
  | true => exact ret_plain rfl fun _ _ => by rw [d1 hb]
  | false => exact ⟨rfl, _, (i64_in ((i : Int) + 1) ⟨by omega, by omega⟩).symm, i + 1, all_sl ⟨rfl, trivial⟩, rfl, ole_refl _, ⟨by omega, d2 hb⟩, by dsimp only; omega⟩
theorem anyscp_x {q : ScopeS → Bool} {fid : FuncId} {ok : ScopeS → Prop} (hp : PredP scopeC fid q ok) (l : List ScopeS) (hok : ∀ x ∈ l, ok x) (u : Value) (hl : l.length ≤ 1000000) (W : PW) (h : RP scopeC W u l) :
    CallsX Tryz.prog 60 ⟨[u, .func (.func fid) #[] #[]]⟩ [] W fun v _ => v = .bool (l.any q) := by
  refine pureX hmix Tryz.func60 r60 (by kernel_rfl) [u, .func (.func fid) #[] #[]] rfl ?_
  refine call_v rfl (fun W' lw => idxscp_x hp l hok u hl W' (h.mono lw)) (fun W3 v W4 _ _ hv => ?_)
  obtain ⟨k, hk, rfl⟩ : ∃ k, idxL q l = k ∧ v = .int .i64 k := ⟨_, rfl, hv⟩
  obtain ⟨_, h2⟩ := idxL_any q l
  refine ⟨rfl, ret_plain rfl fun _ _ => ?_⟩
  show Value.bool (decide (0 ≤ k)) = _
  rw [← hk]
  congr 1
  rw [Bool.eq_iff_iff, decide_eq_true_eq]; exact h2

theorem eqTyp : EqOK Tryz.prog 97 [97] := ⟨Tryz.eqGuardType97, fun s hs => by rw [List.mem_singleton.1 hs]; exact Tryz.stoodInHeld97⟩
def typOK (t : TypS) : Bool := (decide (t.space = []) && decide (t.rel = [])) || (wordS t.space && wordS t.rel)
def smT (t : TypS) : Prop := t.space.length ≤ 9223372036854775807 ∧ t.rel.length ≤ 9223372036854775807
theorem kindOK_x : PredP typC 59 typOK smT := by
  rintro ⟨a, b⟩ W ⟨h1, h2⟩
  dsimp only at h1 h2
  refine pureX hmix Tryz.func59 r59 (by kernel_rfl) [.agg ⟨typC ⟨a, b⟩⟩] rfl ?_
  refine ⟨eqTyp, br_bool (fun h => ?_) (fun h => ?_)⟩
  · have h : (decide (a = []) && (decide (b = []) && true)) = true := h
    refine ret_plain rfl fun _ _ => ?_
    simp only [Bool.and_true] at h
    simp only [typOK, h, Bool.true_or]
  · have h : (decide (a = []) && (decide (b = []) && true)) = false := h
    simp only [Bool.and_true] at h
    have e : typOK ⟨a, b⟩ = (wordS a && wordS b) := by simp only [typOK, h, Bool.false_or]
    rw [e]
    refine call_v rfl (fun W' _ => word_xl a h1 W') (fun W3 v W4 _ _ hv => ?_)
    obtain ⟨w, hw, rfl⟩ : ∃ w, wordS a = w ∧ v = .bool w := ⟨_, rfl, hv⟩
    rw [hw]
    cases w with
    | true =>
      refine call_v rfl (fun W' _ => word_xl b h2 W') (fun W3 v W4 _ _ hv => ?_)
      subst hv
      exact ret_plain rfl fun _ _ => rfl
    | false => exact ret_plain rfl fun _ _ => rfl
theorem kindNO_x : PredP typC 58 (fun t => !typOK t) smT := by
  intro t W h
  refine pureX hmix Tryz.func58 r58 (by kernel_rfl) [.agg ⟨typC t⟩] rfl ?_
  refine call_v rfl (fun W' _ => kindOK_x t W' h) (fun W3 v W4 _ _ hv => ?_)
  obtain ⟨w, hw, rfl⟩ : ∃ w, typOK t = w ∧ v = .bool w := ⟨_, rfl, hv⟩
  exact ret_plain rfl fun _ _ => by rw [← hw]
def scOK (s : ScopeS) : Bool := wordS s.name && (isRefS s.object && wordS s.rel)
def smS (s : ScopeS) : Prop := s.name.length ≤ 9223372036854775807 ∧ s.object.fits ∧ s.rel.length ≤ 9223372036854775807
theorem scopeNO_x : PredP scopeC 61 (fun t => !scOK t) smS := by
  rintro ⟨n, ⟨sp, id⟩, r⟩ W ⟨h1, h2, h3⟩
  dsimp only at h1 h2 h3
  refine pureX hmix Tryz.func61 r61 (by kernel_rfl) [.agg ⟨scopeC ⟨n, ⟨sp, id⟩, r⟩⟩] rfl ?_
  unfold scOK
  refine call_v rfl (fun W' _ => word_xl n h1 W') (fun W3 v W4 _ _ hv => ?_)
  obtain ⟨w, hw, rfl⟩ : ∃ w, wordS n = w ∧ v = .bool w := ⟨_, rfl, hv⟩
  dsimp only
  rw [hw]
  cases w with
  | false => exact ret_plain rfl fun _ _ => rfl
  | true =>
    refine call_v rfl (fun W' _ => checkRef_xl ⟨sp, id⟩ h2 W') (fun W3 v W4 _ _ hv => ?_)
    obtain ⟨w, hw, rfl⟩ : ∃ w, isRefS ⟨sp, id⟩ = w ∧ v = .int .i64 (okE w) := ⟨_, rfl, hv⟩
    rw [hw]
    cases w with
    | false => exact ⟨rfl, ret_plain rfl fun _ _ => rfl⟩
    | true =>
      refine ⟨rfl, ?_⟩
      refine call_v rfl (fun W' _ => word_xl r h3 W') (fun W3 v W4 _ _ hv => ?_)
      subst hv
      exact ret_plain rfl fun _ _ => rfl
structure okRB (r : RelS) : Prop where
  name : r.name.length ≤ 9223372036854775807
  types : ∀ t ∈ r.types, smT t
  tn : r.types.length ≤ 1000000
  rel : okRel r
structure okSB (s : SpaceS) : Prop where
  name : s.name.length ≤ 9223372036854775807
  n : s.rels.length ≤ 100000
  rels : ∀ r ∈ s.rels, okRB r
structure okCB (c : ConfS) : Prop where
  n : c.spaces.length ≤ 100000
  m : c.scopes.length ≤ 1000000
  sp : ∀ s ∈ c.spaces, okSB s
  sc : ∀ s ∈ c.scopes, smS s
theorem okR.b {r : RelS} (h : okR r) : okRB r := ⟨by have := h.1; omega, fun t ht => ⟨by have := (h.2.1 t ht).1; omega, by have := (h.2.1 t ht).2; omega⟩, by have := h.2.2.1; omega, h.rel⟩
theorem okSp.b {s : SpaceS} (h : okSp s) : okSB s := ⟨by have := h.1; omega, by have := h.2.1; omega, fun r hr => (h.2.2 r hr).b⟩
theorem okC.b {c : ConfS} (h : okC c) : okCB c := ⟨by have := h.n; omega, by have := h.m; omega, fun s hs => (h.sp s hs).b, fun s hs => ⟨by have := (h.sc s hs).1; omega, ⟨by have := (h.sc s hs).2.1.1; omega, by have := (h.sc s hs).2.1.2; omega⟩, by have := (h.sc s hs).2.2; omega⟩⟩
theorem okSB.space {s : SpaceS} (h : okSB s) : okSpace s := ⟨h.n, fun r hr => (h.rels r hr).rel⟩
def relOK (r : RelS) : Bool := wordS r.name && (!decide (deepN r.nodes = 0) && r.types.all typOK)
def spOK (s : SpaceS) : Bool := wordS s.name && s.rels.all relOK
def rightN (c : ConfS) : Bool := withinN c && (c.spaces.all spOK && c.scopes.all scOK)
theorem any_not {α : Type} (q : α → Bool) (l : List α) : l.any (fun x => !q x) = !l.all q := by
  induction l with
  | nil => rfl
  | cons a l ih => simp only [List.any_cons, List.all_cons, ih, Bool.not_and]
theorem all_no {α : Type} {q : α → Bool} {l : List α} {x : α} (h : x ∈ l) (hq : q x = false) : l.all q = false := by
  rw [Bool.eq_false_iff, ne_eq, List.all_eq_true]
  intro h'; rw [h' x h] at hq; cases hq
theorem take_all {α : Type} {q : α → Bool} {l : List α} {i : Nat} {x : α} (hx : l[i]? = some x) (h : ∀ y ∈ l.take i, q y = true) (hq : q x = true) : ∀ y ∈ l.take (i + 1), q y = true := by
  intro y hy
  rw [List.take_add_one, hx] at hy
  rcases List.mem_append.1 hy with hy | hy
  · exact h y hy
  · simp at hy; subst hy; exact hq
end Go.Proofs.YtcgbcbdgjhnlaaaGreat

namespace Go.Proofs.YtcgbcbdgjhnlaaaGreat
open Go.RowKit

set_option maxHeartbeats 4000000 in
theorem right_x (x : ConfS) (cs : List Value) (hok : okCB x) (W : PW) (h : ConfR W x cs) : CallsX Tryz.prog 40 ⟨[.agg ⟨cs⟩]⟩ [] W fun v _ => v = .bool (rightN x) := by
  obtain ⟨sv, kv, rfl, hS, hK⟩ := h
  obtain ⟨a1, c1, rfl, _, _⟩ := hS.form
  obtain ⟨a2, c2, rfl, _, _⟩ := hK.form
  have hn := hok.n
  have hm := hok.m
  refine pureX hmix Tryz.func40 r40 (by kernel_rfl) [.agg ⟨[.slice a1 x.spaces.length c1, .slice a2 x.scopes.length c2]⟩] rfl ?_
  refine call_v rfl (fun W' lw => within_rule_x x _ hn (fun s hs => (hok.sp s hs).space) W' (ConfR.mono _ _ _ _ lw ⟨_, _, rfl, hS, hK⟩)) (fun W3 v W4 l3 l4 hv => ?_)
  obtain ⟨b, hb, rfl⟩ : ∃ b, withinN x = b ∧ v = .bool b := ⟨_, rfl, hv⟩
  cases b with
  | false => exact ret_plain rfl fun _ _ => by unfold rightN; rw [hb]; (first | done | rfl)
  | true =>
  have eR : rightN x = (x.spaces.all spOK && x.scopes.all scOK) := by unfold rightN; rw [hb]; (first | done | rfl)
  rw [eR]
  have l34 := l3.trans l4
  refine ⟨Nat, fun i => [(13, .v (.int .i64 i))], fun _ => [[.v (.slice a1 x.spaces.length c1), .v (.slice a2 x.scopes.length c2)]], fun _ => [], fun i _ => i ≤ x.spaces.length ∧ ∀ y ∈ x.spaces.take i, spOK y = true, fun i => x.spaces.length - i, 0,
    all_sl ⟨rfl, trivial⟩, rfl, ole_refl _, ⟨Nat.zero_le _, by simp⟩, loopOK (fun _ => ⟨⟨trivial, rfl⟩, trivial⟩) (fun _ => rfl) (fun _ => rfl), ?_⟩
  rintro i W5 l5 ⟨hi, hI⟩ fr
  refine ⟨rfl, br_split (fun hq => ?_) (fun hq => ?_)⟩
  rotate_left
  · have hq : ¬ (i : Int) < x.spaces.length := hq
    rw [List.take_of_length_le (by omega)] at hI
    rw [List.all_eq_true.2 hI]
    refine call_v rfl (fun W' lw => anyscp_x scopeNO_x x.scopes hok.sc _ hm W' (hK.mono (l34.trans (l5.trans lw)))) (fun W3 v W4 l3 l4 hv => ?_)
    rw [any_not] at hv
    obtain ⟨w, hw, rfl⟩ : ∃ w, x.scopes.all scOK = w ∧ v = .bool (!w) := ⟨_, rfl, hv⟩
    rw [hw]
    exact ret_plain rfl fun _ _ => by cases w <;> rfl
  have hq : (i : Int) < x.spaces.length := hq
  obtain ⟨pc, rfl, s, ds, hx, hcl, ⟨rv, hds, hR⟩, _, hrd⟩ := hS.at SpR.mono (l34.trans l5) (j := i) ⟨by omega, hq⟩
  have hx : x.spaces[i]? = some s := hx
  have hsm := List.mem_of_getElem? hx
  have hsok := hok.sp s hsm
  have hrn := hsok.n
  obtain ⟨a3, c3, rfl, _, _⟩ := hR.form
  subst hds
  have no : spOK s = false → Value.bool false = .bool (x.spaces.all spOK && x.scopes.all scOK) := fun e => by rw [all_no hsm e]; (first | done | rfl)
  refine ⟨⟨by omega, hq⟩, pc, rfl, [strV s.name, .slice a3 s.rels.length c3], rfl, hrd.o, ?_⟩
  refine call_v rfl (fun W' _ => word_xl s.name hsok.name W') (fun W6 v W7 l6 l7 hv => ?_)
  obtain ⟨w, hw, rfl⟩ : ∃ w, wordS s.name = w ∧ v = .bool w := ⟨_, rfl, hv⟩
  cases w with
  | false => exact ret_plain rfl fun _ _ => no (by unfold spOK; rw [hw]; (first | done | rfl))
  | true =>
  have eS : spOK s = s.rels.all relOK := by unfold spOK; rw [hw]; (first | done | rfl)
  rw [eS] at no
  refine ⟨Nat, fun j => [(24, .v (.int .i64 j))], fun _ => [[.v (.slice (some pc) x.spaces.length c1), .v (.slice a2 x.scopes.length c2)], [.v (strV s.name), .v (.slice a3 s.rels.length c3)]], fun _ => [], fun j _ => j ≤ s.rels.length ∧ ∀ y ∈ s.rels.take j, relOK y = true, fun j => s.rels.length - j, 0,
    all_sl ⟨rfl, trivial⟩, rfl, ole_refl _, ⟨Nat.zero_le _, by simp⟩, loopOK (fun _ => ⟨⟨trivial, rfl⟩, trivial⟩) (fun _ => rfl) (fun _ => rfl), ?_⟩
  rintro j W8 l8 ⟨hj, hJ⟩ fr2
  refine ⟨rfl, br_split (fun hq2 => ?_) (fun hq2 => ?_)⟩
  rotate_left
  · have hq2 : ¬ (j : Int) < s.rels.length := hq2
    rw [List.take_of_length_le (by omega)] at hJ
    have hs : spOK s = true := by rw [eS]; exact List.all_eq_true.2 hJ
    exact ⟨rfl, _, (i64_in ((i : Int) + 1) ⟨by omega, by omega⟩).symm, i + 1, all_sl ⟨rfl, trivial⟩, rfl, ole_refl _, ⟨by omega, take_all hx hI hs⟩, by dsimp only; omega⟩
  have hq2 : (j : Int) < s.rels.length := hq2
  have l8' := l6.trans (l7.trans l8)
  obtain ⟨pd, rfl, r, es, hy, hcl2, ⟨tv, nv, hes, hT, hN⟩, _, hrd2⟩ := hR.at RelR.mono l8' (j := j) ⟨by omega, hq2⟩
  have hy : s.rels[j]? = some r := hy
  have hrm := List.mem_of_getElem? hy
  have hrok := hsok.rels r hrm
  obtain ⟨a4, c4, rfl, _, _⟩ := hT.form
  obtain ⟨a5, c5, rfl, _, _⟩ := hN.form
  subst hes
  have no2 : relOK r = false → Value.bool false = .bool (x.spaces.all spOK && x.scopes.all scOK) := fun e => no (all_no hrm e)
  refine ⟨⟨by omega, hq2⟩, pd, rfl, [strV r.name, .slice a4 r.types.length c4, .slice a5 r.nodes.length c5], rfl, hrd2.o, ?_⟩
  refine call_v rfl (fun W' _ => word_xl r.name hrok.name W') (fun W9 v W10 l9 l10 hv => ?_)
  obtain ⟨w, hw, rfl⟩ : ∃ w, wordS r.name = w ∧ v = .bool w := ⟨_, rfl, hv⟩
  cases w with
  | false => exact ret_plain rfl fun _ _ => no2 (by unfold relOK; rw [hw]; (first | done | rfl))
  | true =>
  refine call_v rfl (fun W' lw => deep_x r.nodes _ hrok.rel.1 hrok.rel.2 W' (hN.mono (l9.trans (l10.trans lw)))) (fun W11 v W12 l11 l12 hv => ?_)
  obtain ⟨d, hd, rfl⟩ : ∃ d, deepN r.nodes = d ∧ v = .int .i64 d := ⟨_, rfl, hv⟩
  refine ⟨rfl, ?_⟩
  apply br_split
  · intro h0
    have h0 : d = 0 := h0
    exact ret_plain rfl fun _ _ => no2 (by unfold relOK; rw [hw, hd, decide_eq_true h0]; (first | done | rfl))
  intro h0
  have h0 : ¬ d = 0 := h0
  have eT : relOK r = r.types.all typOK := by unfold relOK; rw [hw, hd, decide_eq_false h0]; (first | done | rfl)
  refine call_v rfl (fun W' lw => anytyp_x kindNO_x r.types hrok.types _ hrok.tn W' (hT.mono (l9.trans (l10.trans (l11.trans (l12.trans lw)))))) (fun W13 v W14 l13 l14 hv => ?_)
  rw [any_not, ← eT] at hv
  obtain ⟨w, hw, rfl⟩ : ∃ w, relOK r = w ∧ v = .bool (!w) := ⟨_, rfl, hv⟩
  cases w with
  | false => exact ret_plain rfl fun _ _ => no2 hw
  | true => exact ⟨rfl, _, (i64_in ((j : Int) + 1) ⟨by omega, by omega⟩).symm, j + 1, all_sl ⟨rfl, trivial⟩, rfl, ole_refl _, ⟨by omega, take_all hy hJ hw⟩, by dsimp only; omega⟩
end Go.Proofs.YtcgbcbdgjhnlaaaGreat
