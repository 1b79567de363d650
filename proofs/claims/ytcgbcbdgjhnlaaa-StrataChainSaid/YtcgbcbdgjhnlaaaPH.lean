/- Layer 16 (rule): the document's parser, plain and walked; it answers as the program's. -/
import Derived.Test.YtcgbcbdgjhnlaaaPG
import Derived.Test.YtcgbcbdgjhnlaaaPE
import Derived.Test.YtcgbcbdgjhnlaaaPD
import Derived.Test.YtcgbcbdgjhnlaaaPC
import Derived.Test.YtcgbcbdgjhnlaaaPB
namespace Go.Proofs.Ytcgbcbdgjhnlaaa

def isD (l : List Tok) (i : Nat) (s : List UInt8) : Bool := match l[i]? with | some x => !decide (x.k = 2) && decide (x.t = s) | none => false
def wordD (l : List Tok) (i : Nat) : Bool := match l[i]? with | some x => wordT x | none => false
def txD (l : List Tok) (i : Nat) : List UInt8 := match l[i]? with | some x => x.t | none => []
def txtD (l : List Tok) (i : Nat) : Bool := match l[i]? with | some x => decide (x.k = 2) | none => false
def kindD (l : List Tok) (i : Nat) : Option (TypS × Nat) :=
  if isD l i kUser then some (⟨[], []⟩, i + 1)
  else if wordD l i && (isD l (i + 1) [35] && wordD l (i + 2)) then some (⟨txD l i, txD l (i + 2)⟩, i + 3) else none
def rankD (l : List Tok) (i : Nat) : Nat := if isD l i [124] || isD l i [45] then 1 else if isD l i [38] then 2 else 0
def oprD (s : List UInt8) : Nat := if s = [124] then 4 else if s = [45] then 6 else 5
abbrev ND := Option (List NodeS × Nat)
def closeD (l : List Tok) : ND → ND
  | some (ns, j) => if isD l j [41] then some (ns, j + 1) else none
  | none => none
def headD (ex : Nat → Nat → List NodeS → ND) (l : List Tok) (i : Nat) (ns : List NodeS) : ND :=
  if isD l i [40] then closeD l (ex (i + 1) 1 ns)
  else if isD l i kThis then some (ns ++ [⟨1, [], [], 0, 0⟩], i + 1)
  else if wordD l i && isD l (i + 1) [45, 62] then (if wordD l (i + 2) then some (ns ++ [⟨3, txD l i, txD l (i + 2), 0, 0⟩], i + 3) else none)
  else if wordD l i then some (ns ++ [⟨2, txD l i, [], 0, 0⟩], i + 1) else none
def loopD (ex : Nat → Nat → List NodeS → ND) (l : List Tok) (least : Nat) : Nat → List NodeS → Nat → ND
  | 0, _, _ => none
  | m + 1, ns, j => if least ≤ rankD l j then
      match ex (j + 1) (rankD l j + 1) ns with
      | some (ns', j') => loopD ex l least m (joinN (oprD (txD l j)) ns ns') j'
      | none => none
    else some (ns, j)
def exprD (l : List Tok) : Nat → Nat → Nat → List NodeS → ND
  | 0, _, _, _ => none
  | f + 1, i, least, ns => match headD (exprD l f) l i ns with
    | some (ns', j) => loopD (exprD l f) l least (l.length + 1 - j) ns' j
    | none => none
def typesD (l : List Tok) : Nat → List TypS → Nat → Option (List TypS × Nat)
  | 0, _, _ => none
  | m + 1, ts, i => match kindD l (i + 1) with
    | some (t, j) => if isD l j [124] then typesD l m (ts ++ [t]) j else some (ts ++ [t], j)
    | none => none
def typsD (l : List Tok) (i : Nat) : Option (List TypS × Nat) := if isD l i [58] then typesD l (l.length + 1 - i) [] i else some ([], i)
def nodsD (l : List Tok) (i : Nat) : ND := if isD l i [61] then exprD l (l.length + 1) (i + 1) 1 [] else some ([thisN], i)
def relD (l : List Tok) (i : Nat) : Option (RelS × Nat) :=
  if wordD l i then
    match typsD l (i + 1) with
    | some (ts, j) => match nodsD l j with
      | some (ns, k) => if isD l k [59] then some (⟨txD l i, ts, ns⟩, k + 1) else none
      | none => none
    | none => none
  else none
def relsD (l : List Tok) : Nat → List RelS → Nat → Option (List RelS × Nat)
  | 0, _, _ => none
  | m + 1, rs, i => if isD l i kRelation then
      match relD l (i + 1) with
      | some (r, j) => relsD l m (rs ++ [r]) j
      | none => none
    else some (rs, i)
def spaceD (l : List Tok) (i : Nat) : Option (SpaceS × Nat) :=
  if wordD l i && isD l (i + 1) [123] then
    match relsD l (l.length + 1) [] (i + 2) with
    | some (rs, j) => if isD l j [125] then some (⟨txD l i, rs⟩, j + 1) else none
    | none => none
  else none
def scopeD (l : List Tok) (i : Nat) : Option (ScopeS × Nat) :=
  if wordD l i && (isD l (i + 1) [61] && (txtD l (i + 2) && isD l (i + 3) [59])) then
    match cutL 35 (txD l (i + 2)) with
    | some (a, b) => if isRefS (refR a) && wordS b then some (⟨txD l i, refR a, b⟩, i + 4) else none
    | none => none
  else none
def confD (l : List Tok) : Nat → ConfS → Nat → Option ConfS
  | 0, _, _ => none
  | m + 1, c, i => if i < l.length then
      if isD l i kNamespace then
        match spaceD l (i + 1) with
        | some (s, j) => confD l m ⟨c.spaces ++ [s], c.scopes⟩ j
        | none => none
      else if isD l i kScope then
        match scopeD l (i + 1) with
        | some (s, j) => confD l m ⟨c.spaces, c.scopes ++ [s]⟩ j
        | none => none
      else none
    else some c
/-- Where the nodes begin that end ahead of a place, and how deep they are. -/
def treeD (l : List NodeS) : Nat → Nat → Option (Nat × Nat)
  | 0, _ => none
  | _, 0 => none
  | f + 1, e + 1 => match l[e]? with
    | none => none
    | some n => if isOp n then
        match treeD l f e with
        | none => none
        | some (b, x) => match treeD l f b with
          | none => none
          | some (a, y) => if n.a = (b : Int) - 1 ∧ n.b = (e : Int) - 1 ∧ n.rel = [] ∧ n.thn = [] then some (a, (if x < y then y else x) + 1) else none
      else if leafN n then some (e, 1) else none
def deepD (l : List NodeS) : Nat := match treeD l l.length l.length with | some (0, d) => d | _ => 0
def muchD (r : RelS) : Bool := decide (8 < r.types.length) || (decide (64 < r.nodes.length) || decide (16 < deepD r.nodes))
def muchC (c : ConfS) : Bool := (decide (16 < c.spaces.length) || decide (16 < c.scopes.length)) || c.spaces.any fun s => decide (16 < s.rels.length) || s.rels.any muchD
def openD (o : Nat) (l : List Tok) (i : Nat) : Nat := if isD l i [40] then (if isD l i [41] then o else o + 1) else if isD l i [41] then o - 1 else o
def nestD (l : List Tok) : Nat → Nat → Nat → Bool
  | 0, _, _ => false
  | m + 1, o, i => if i < l.length then (if 16 < openD o l i then true else nestD l m (openD o l i) (i + 1)) else false
def ruleD (s : List UInt8) : ConfS × Int :=
  if (lexA s).2 = 0 then
    if nestD (lexA s).1 ((lexA s).1.length + 1) 0 0 then (noConf, 5)
    else match confD (lexA s).1 ((lexA s).1.length + 1) noConf 0 with
      | none => (noConf, 4)
      | some c => if muchC c then (noConf, 25) else (c, 0)
  else (noConf, (lexA s).2)

/-! ## Sizes -/
theorem isD_lt {l : List Tok} {i : Nat} {s : List UInt8} (h : isD l i s = true) : i < l.length := by
  unfold isD at h
  split at h
  · rename_i x hx; exact (List.getElem?_eq_some_iff.1 hx).1
  · cases h
theorem wordD_lt {l : List Tok} {i : Nat} (h : wordD l i = true) : i < l.length := by
  unfold wordD at h
  split at h
  · rename_i x hx; exact (List.getElem?_eq_some_iff.1 hx).1
  · cases h
theorem kindD_le {l : List Tok} {i : Nat} {t : TypS} {j : Nat} (h : kindD l i = some (t, j)) : i < j ∧ j ≤ l.length := by
  unfold kindD at h
  split at h
  · rename_i h1
    simp only [Option.some.injEq, Prod.mk.injEq] at h
    have := isD_lt h1; omega
  · split at h
    · rename_i h1
      simp only [Bool.and_eq_true] at h1
      simp only [Option.some.injEq, Prod.mk.injEq] at h
      have := wordD_lt h1.2.2; omega
    · cases h
theorem rankD_lt {l : List Tok} {i : Nat} (h : 1 ≤ rankD l i) : i < l.length ∧ rankD l i ≤ 2 := by
  unfold rankD at h ⊢
  split at h
  · rename_i h1
    rw [if_pos h1]
    simp only [Bool.or_eq_true] at h1
    exact ⟨h1.elim isD_lt isD_lt, by omega⟩
  · rename_i h1
    rw [if_neg h1]
    split at h
    · rename_i h2
      rw [if_pos h2]
      exact ⟨isD_lt h2, by omega⟩
    · omega
/-- What is made of so many tokens. -/
def FitD (l : List Tok) (ex : Nat → Nat → List NodeS → ND) : Prop := ∀ (i least : Nat) (ns ns' : List NodeS) (j : Nat), 1 ≤ least → ex i least ns = some (ns', j) → i < j ∧ j ≤ l.length ∧ ns'.length + 2 * (l.length - j) + 1 ≤ ns.length + 2 * (l.length - i) ∧ ns.length < ns'.length
theorem headD_fit {l : List Tok} {ex : Nat → Nat → List NodeS → ND} (h : FitD l ex) {i : Nat} {ns ns' : List NodeS} {j : Nat} (e : headD ex l i ns = some (ns', j)) : i < j ∧ j ≤ l.length ∧ ns'.length + 2 * (l.length - j) + 1 ≤ ns.length + 2 * (l.length - i) ∧ ns.length < ns'.length := by
  unfold headD at e
  split at e
  · rename_i h1
    have := isD_lt h1
    cases hx : ex (i + 1) 1 ns with
    | none => rw [hx] at e; cases e
    | some p =>
      obtain ⟨ns2, k⟩ := p
      rw [hx] at e
      obtain ⟨a, b, c, d⟩ := h _ _ _ _ _ (Nat.le_refl _) hx
      simp only [closeD] at e
      split at e
      · rename_i h2
        have := isD_lt h2
        simp only [Option.some.injEq, Prod.mk.injEq] at e
        obtain ⟨rfl, rfl⟩ := e
        omega
      · cases e
  · split at e
    · rename_i h1
      have := isD_lt h1
      simp only [Option.some.injEq, Prod.mk.injEq] at e
      obtain ⟨rfl, rfl⟩ := e
      simp only [List.length_append, List.length_singleton]; omega
    · split at e
      · split at e
        · rename_i h1
          have := wordD_lt h1
          simp only [Option.some.injEq, Prod.mk.injEq] at e
          obtain ⟨rfl, rfl⟩ := e
          simp only [List.length_append, List.length_singleton]; omega
        · cases e
      · split at e
        · rename_i h1
          have := wordD_lt h1
          simp only [Option.some.injEq, Prod.mk.injEq] at e
          obtain ⟨rfl, rfl⟩ := e
          simp only [List.length_append, List.length_singleton]; omega
        · cases e
theorem loopD_fit {l : List Tok} {ex : Nat → Nat → List NodeS → ND} (h : FitD l ex) {least : Nat} (hl : 1 ≤ least) : ∀ (m : Nat) (ns ns' : List NodeS) (i j : Nat), loopD ex l least m ns i = some (ns', j) → i ≤ l.length → i ≤ j ∧ j ≤ l.length ∧ ns'.length + 2 * (l.length - j) ≤ ns.length + 2 * (l.length - i) ∧ ns.length ≤ ns'.length
  | 0, ns, ns', i, j, e, _ => by cases e
  | m + 1, ns, ns', i, j, e, hi => by
    simp only [loopD] at e
    split at e
    · rename_i h1
      have hr := rankD_lt (Nat.le_trans hl h1)
      split at e
      · rename_i ns2 k hx
        obtain ⟨a, b, c, d⟩ := h _ _ _ _ _ (by omega) hx
        obtain ⟨a2, b2, c2, d2⟩ := loopD_fit h hl m _ _ _ _ e b
        rw [joinN_len] at c2 d2
        omega
      · cases e
    · simp only [Option.some.injEq, Prod.mk.injEq] at e
      obtain ⟨rfl, rfl⟩ := e
      omega
theorem exprD_fit (l : List Tok) : ∀ f : Nat, FitD l (exprD l f)
  | 0, i, least, ns, ns', j, _, e => by cases e
  | f + 1, i, least, ns, ns', j, hl, e => by
    simp only [exprD] at e
    split at e
    · rename_i ns2 k hx
      obtain ⟨a, b, c, d⟩ := headD_fit (exprD_fit l f) hx
      obtain ⟨a2, b2, c2, d2⟩ := loopD_fit (exprD_fit l f) hl _ _ _ _ _ e b
      omega
    · cases e
theorem typesD_le {l : List Tok} : ∀ (m : Nat) (ts ts' : List TypS) (i j : Nat), typesD l m ts i = some (ts', j) → i < j ∧ j ≤ l.length ∧ ts'.length + l.length ≤ ts.length + l.length + j - i
  | 0, ts, ts', i, j, e => by cases e
  | m + 1, ts, ts', i, j, e => by
    simp only [typesD] at e
    split at e
    · rename_i t k hx
      have h1 := kindD_le hx
      split at e
      · have := typesD_le m _ _ _ _ e
        simp only [List.length_append, List.length_singleton] at this; omega
      · simp only [Option.some.injEq, Prod.mk.injEq] at e
        obtain ⟨rfl, rfl⟩ := e
        simp only [List.length_append, List.length_singleton]; omega
    · cases e
theorem typsD_le {l : List Tok} {ts : List TypS} {i j : Nat} (hi : i ≤ l.length) (e : typsD l i = some (ts, j)) : i ≤ j ∧ j ≤ l.length ∧ ts.length ≤ l.length := by
  unfold typsD at e
  split at e
  · have := typesD_le _ _ _ _ _ e
    simp only [List.length_nil] at this; omega
  · simp only [Option.some.injEq, Prod.mk.injEq] at e
    obtain ⟨rfl, rfl⟩ := e
    exact ⟨Nat.le_refl _, hi, Nat.zero_le _⟩
theorem nodsD_le {l : List Tok} {ns : List NodeS} {i j : Nat} (hi : i ≤ l.length) (e : nodsD l i = some (ns, j)) : i ≤ j ∧ j ≤ l.length ∧ ns.length ≤ 2 * l.length + 1 := by
  unfold nodsD at e
  split at e
  · obtain ⟨a, b, c, d⟩ := exprD_fit l _ _ _ _ _ _ (Nat.le_refl _) e
    simp only [List.length_nil] at c; omega
  · simp only [Option.some.injEq, Prod.mk.injEq] at e
    obtain ⟨rfl, rfl⟩ := e
    refine ⟨Nat.le_refl _, hi, ?_⟩
    simp only [List.length_singleton]; omega
theorem relD_le {l : List Tok} {r : RelS} {i j : Nat} (e : relD l i = some (r, j)) : i < j ∧ j ≤ l.length := by
  unfold relD at e
  split at e
  · rename_i h1
    have h1 := wordD_lt h1
    split at e
    · rename_i ts k hx
      have h2 := typsD_le (by omega) hx
      split at e
      · rename_i ns k2 hy
        have h3 := nodsD_le h2.2.1 hy
        split at e
        · rename_i h4
          have := isD_lt h4
          simp only [Option.some.injEq, Prod.mk.injEq] at e
          omega
        · cases e
      · cases e
    · cases e
  · cases e
theorem relsD_le {l : List Tok} : ∀ (m : Nat) (rs rs' : List RelS) (i j : Nat), relsD l m rs i = some (rs', j) → i ≤ l.length → i ≤ j ∧ j ≤ l.length
  | 0, rs, rs', i, j, e, _ => by cases e
  | m + 1, rs, rs', i, j, e, hi => by
    simp only [relsD] at e
    split at e
    · split at e
      · rename_i t k hx
        have h1 := relD_le hx
        have := relsD_le m _ _ _ _ e h1.2
        omega
      · cases e
    · simp only [Option.some.injEq, Prod.mk.injEq] at e
      omega
theorem spaceD_le {l : List Tok} {s : SpaceS} {i j : Nat} (e : spaceD l i = some (s, j)) : i < j ∧ j ≤ l.length := by
  unfold spaceD at e
  split at e
  · rename_i h1
    simp only [Bool.and_eq_true] at h1
    have h2 := isD_lt h1.2
    split at e
    · rename_i rs k hx
      have h3 := relsD_le _ _ _ _ _ hx (by omega)
      split at e
      · rename_i h4
        have := isD_lt h4
        simp only [Option.some.injEq, Prod.mk.injEq] at e
        omega
      · cases e
    · cases e
  · cases e
theorem scopeD_le {l : List Tok} {s : ScopeS} {i j : Nat} (e : scopeD l i = some (s, j)) : i < j ∧ j ≤ l.length := by
  unfold scopeD at e
  split at e
  · rename_i h1
    simp only [Bool.and_eq_true] at h1
    have h2 := isD_lt h1.2.2.2
    split at e
    · split at e
      · simp only [Option.some.injEq, Prod.mk.injEq] at e
        omega
      · cases e
    · cases e
  · cases e
end Go.Proofs.Ytcgbcbdgjhnlaaa

namespace Go.Proofs.Ytcgbcbdgjhnlaaa
open Go.RowKit

def endI {α : Type} : Option (α × Nat) → Int
  | some (_, j) => j
  | none => -1
theorem isd_x (N : Nat) (l : List Tok) (_ : l.length ≤ 16384) (s : List UInt8) (i : Nat) (u : Value) (W : PW) (h : RP (tokC N) W u l) : CallsX Try.prog 142 ⟨[u, .int .i64 i, strV s]⟩ [] W fun v _ => v = .bool (isD l i s) := by
  obtain ⟨A, c, rfl, _, _⟩ := h.form
  refine pureX hmix Try.func142 r142 (by kernel_rfl) [.slice A l.length c, .int .i64 i, strV s] rfl ?_
  refine ⟨rfl, ?_⟩
  apply br_split
  · intro hq
    have hq : (i : Int) < l.length := hq
    obtain ⟨pc, rfl, x, hx, hall, _, _⟩ := h.at (sz := 3) (tokC_len _) (PW.Le.refl _) (j := i) ⟨by omega, hq⟩
    have hx : l[i]? = some x := hx
    refine ⟨⟨by omega, hq⟩, pc, rfl, .int .i64 x.k, (hall 0 _ rfl).o, rfl, ?_⟩
    apply br_nsplit
    · intro hk
      have hk : ¬ (x.k : Int) = 2 := hk
      refine ⟨⟨by omega, hq⟩, pc, rfl, strV x.t, (hall 1 _ rfl).o, ret_plain rfl fun _ _ => ?_⟩
      show Value.bool (decide (x.t = s)) = _
      rw [isD, hx]; simp only [decide_eq_false (show ¬ x.k = 2 by omega)]; (first | done | rfl)
    · intro hk
      have hk : (x.k : Int) = 2 := hk
      refine ret_plain rfl fun _ _ => ?_
      rw [isD, hx]; simp only [decide_eq_true (show x.k = 2 by omega)]; (first | done | rfl)
  · intro hq
    have hq : ¬ (i : Int) < l.length := hq
    refine ret_plain rfl fun _ _ => ?_
    rw [isD, List.getElem?_eq_none (by omega)]
theorem wordd_x (N : Nat) (l : List Tok) (hl : l.length ≤ 16384 ∧ ∀ x ∈ l, x.t.length ≤ 16384) (i : Nat) (u : Value) (W : PW) (h : RP (tokC N) W u l) : CallsX Try.prog 168 ⟨[u, .int .i64 i]⟩ [] W fun v _ => v = .bool (wordD l i) := by
  obtain ⟨A, c, rfl, _, _⟩ := h.form
  refine pureX hmix Try.func168 r168 (by kernel_rfl) [.slice A l.length c, .int .i64 i] rfl ?_
  refine ⟨rfl, ?_⟩
  apply br_split
  · intro hq
    have hq : (i : Int) < l.length := hq
    obtain ⟨pc, rfl, x, hx, hall, _, _⟩ := h.at (sz := 3) (tokC_len _) (PW.Le.refl _) (j := i) ⟨by omega, hq⟩
    have hx : l[i]? = some x := hx
    have hxt := hl.2 x (List.mem_of_getElem? hx)
    refine ⟨⟨by omega, hq⟩, pc, rfl, .int .i64 x.k, (hall 0 _ rfl).o, rfl, ?_⟩
    apply br_split
    · intro hk
      have hk : (x.k : Int) = 1 := hk
      refine ⟨⟨by omega, hq⟩, pc, rfl, strV x.t, (hall 1 _ rfl).o, ?_⟩
      refine call_v rfl (fun W' _ => refword_x x.t (by omega) W') (fun W3 v W4 _ _ hv => ?_)
      obtain ⟨w, hw, rfl⟩ : ∃ w, wordS x.t = w ∧ v = .bool w := ⟨_, rfl, hv⟩
      refine ret_plain rfl fun _ _ => ?_
      rw [wordD, hx]; simp only [wordT, decide_eq_true (show x.k = 1 by omega), hw]; (first | done | rfl)
    · intro hk
      have hk : ¬ (x.k : Int) = 1 := hk
      refine ret_plain rfl fun _ _ => ?_
      rw [wordD, hx]; simp only [wordT, decide_eq_false (show ¬ x.k = 1 by omega)]; (first | done | rfl)
  · intro hq
    have hq : ¬ (i : Int) < l.length := hq
    refine ret_plain rfl fun _ _ => ?_
    rw [wordD, List.getElem?_eq_none (by omega)]
theorem tok_at {N : Nat} {l : List Tok} {A : Option Addr} {c : Nat} {W W' : PW} (h : RP (tokC N) W (.slice A l.length c) l) (lw : W.Le W') {i : Nat} (hi : i < l.length) : ∃ a, A = some a ∧ l[i]? = some (⟨(l[i]'hi).k, txD l i, (l[i]'hi).r⟩ : Tok) ∧ Rd W' ((a.add (i * 3)).add 1) (strV (txD l i)) := by
  obtain ⟨pc, rfl, x, hx, hall, _, _⟩ := h.at (sz := 3) (tokC_len _) lw (j := i) ⟨by omega, by omega⟩
  have hx : l[i]? = some x := hx
  have e : l[i]'hi = x := by rw [List.getElem?_eq_getElem hi] at hx; exact Option.some.inj hx
  have et : txD l i = x.t := by rw [txD, hx]
  refine ⟨pc, rfl, ?_, ?_⟩
  · rw [et, e]; exact hx
  · rw [et]; exact hall 1 _ rfl
def kindVD (l : List Tok) (i : Nat) : TypS := match kindD l i with | some (t, _) => t | none => ⟨[], []⟩
set_option maxHeartbeats 2000000 in
theorem kindd_x (N : Nat) (l : List Tok) (hl : l.length ≤ 16384 ∧ ∀ x ∈ l, x.t.length ≤ 16384) (i : Nat) (hi : i ≤ 20000) (u : Value) (W : PW) (h : RP (tokC N) W u l) : CallsX Try.prog 183 ⟨[u, .int .i64 i]⟩ [] W fun v _ => v = .tuple ⟨[.agg ⟨typC (kindVD l i)⟩, .int .i64 (endI (kindD l i))]⟩ := by
  obtain ⟨A, c, rfl, _, _⟩ := h.form
  refine pureX hmix Try.func183 r183 (by kernel_rfl) [.slice A l.length c, .int .i64 i] rfl ?_
  have w1 : IntKind.i64.wrap ((i : Int) + 1) = ((i + 1 : Nat) : Int) := by rw [i64_in _ ⟨by omega, by omega⟩]; omega
  have w2 : IntKind.i64.wrap ((i : Int) + 2) = ((i + 2 : Nat) : Int) := by rw [i64_in _ ⟨by omega, by omega⟩]; omega
  have w3 : IntKind.i64.wrap ((i : Int) + 3) = ((i + 3 : Nat) : Int) := by rw [i64_in _ ⟨by omega, by omega⟩]; omega
  have no : kindD l i = none → Value.tuple ⟨[.agg ⟨[strV [], strV []]⟩, .int .i64 (-1)]⟩ = .tuple ⟨[.agg ⟨typC (kindVD l i)⟩, .int .i64 (endI (kindD l i))]⟩ := fun e => by rw [kindVD, e]; (first | done | rfl)
  refine call_v rfl (fun W' lw => isd_x N l hl.1 kUser i _ W' (h.mono lw)) (fun W3 v W4 l3 l4 hv => ?_)
  obtain ⟨b, hb, rfl⟩ : ∃ b, isD l i kUser = b ∧ v = .bool b := ⟨_, rfl, hv⟩
  cases b with
  | true =>
    have e : kindD l i = some (⟨[], []⟩, i + 1) := by rw [kindD, if_pos hb]
    refine ⟨rfl, _, w1.symm, ret_plain rfl fun _ _ => ?_⟩
    rw [kindVD, e]; (first | done | rfl)
  | false =>
  have e0 : kindD l i = if wordD l i && (isD l (i + 1) [35] && wordD l (i + 2)) then some (⟨txD l i, txD l (i + 2)⟩, i + 3) else none := by rw [kindD, if_neg (by rw [hb]; exact Bool.false_ne_true)]
  have l34 := l3.trans l4
  refine call_v rfl (fun W' lw => wordd_x N l hl i _ W' (h.mono (l34.trans lw))) (fun W5 v W6 l5 l6 hv => ?_)
  obtain ⟨b, hb1, rfl⟩ : ∃ b, wordD l i = b ∧ v = .bool b := ⟨_, rfl, hv⟩
  rw [hb1] at e0
  cases b with
  | false => exact ret_plain rfl fun _ _ => no e0
  | true =>
  refine ⟨rfl, _, w1.symm, ?_⟩
  have l36 := l34.trans (l5.trans l6)
  refine call_v rfl (fun W' lw => isd_x N l hl.1 [35] (i + 1) _ W' (h.mono (l36.trans lw))) (fun W7 v W8 l7 l8 hv => ?_)
  obtain ⟨b, hb2, rfl⟩ : ∃ b, isD l (i + 1) [35] = b ∧ v = .bool b := ⟨_, rfl, hv⟩
  rw [hb2] at e0
  cases b with
  | false => exact ret_plain rfl fun _ _ => no e0
  | true =>
  refine ⟨rfl, _, w2.symm, ?_⟩
  have l38 := l36.trans (l7.trans l8)
  refine call_v rfl (fun W' lw => wordd_x N l hl (i + 2) _ W' (h.mono (l38.trans lw))) (fun W9 v W10 l9 l10 hv => ?_)
  obtain ⟨b, hb3, rfl⟩ : ∃ b, wordD l (i + 2) = b ∧ v = .bool b := ⟨_, rfl, hv⟩
  rw [hb3] at e0
  cases b with
  | false => exact ret_plain rfl fun _ _ => no e0
  | true =>
  have h2 := wordD_lt hb3
  have l310 := l38.trans (l9.trans l10)
  obtain ⟨a, rfl, hx, hr1⟩ := tok_at h l310 (i := i) (by omega)
  obtain ⟨a2, e2, hx2, hr2⟩ := tok_at h l310 (i := i + 2) (by omega)
  rw [← Option.some.inj e2] at hr2
  refine ⟨⟨by omega, by omega⟩, a, rfl, strV (txD l i), hr1.o, rfl, _, w2.symm, ⟨by omega, by omega⟩, a, rfl, strV (txD l (i + 2)), hr2.o, rfl, _, w3.symm, ?_⟩
  refine ret_plain rfl fun _ _ => ?_
  rw [kindVD, e0]; (first | done | rfl)
theorem rankd_x (N : Nat) (l : List Tok) (hl : l.length ≤ 16384) (i : Nat) (u : Value) (W : PW) (h : RP (tokC N) W u l) : CallsX Try.prog 189 ⟨[u, .int .i64 i]⟩ [] W fun v _ => v = .int .i64 (rankD l i) := by
  obtain ⟨A, c, rfl, _, _⟩ := h.form
  refine pureX hmix Try.func189 r189 (by kernel_rfl) [.slice A l.length c, .int .i64 i] rfl ?_
  unfold rankD
  refine call_v rfl (fun W' lw => isd_x N l hl [124] i _ W' (h.mono lw)) (fun W3 v W4 l3 l4 hv => ?_)
  obtain ⟨b, hb, rfl⟩ : ∃ b, isD l i [124] = b ∧ v = .bool b := ⟨_, rfl, hv⟩
  rw [hb]
  cases b with
  | true => exact ret_plain rfl fun _ _ => rfl
  | false =>
  refine call_v rfl (fun W' lw => isd_x N l hl [45] i _ W' (h.mono ((l3.trans l4).trans lw))) (fun W5 v W6 l5 l6 hv => ?_)
  obtain ⟨b, hb, rfl⟩ : ∃ b, isD l i [45] = b ∧ v = .bool b := ⟨_, rfl, hv⟩
  rw [hb]
  cases b with
  | true => exact ret_plain rfl fun _ _ => rfl
  | false =>
  refine call_v rfl (fun W' lw => isd_x N l hl [38] i _ W' (h.mono ((l3.trans (l4.trans (l5.trans l6))).trans lw))) (fun W7 v W8 l7 l8 hv => ?_)
  obtain ⟨b, hb, rfl⟩ : ∃ b, isD l i [38] = b ∧ v = .bool b := ⟨_, rfl, hv⟩
  rw [hb]
  cases b with
  | true => exact ret_plain rfl fun _ _ => rfl
  | false => exact ret_plain rfl fun _ _ => rfl
theorem oprd_x (s : List UInt8) (W : PW) : CallsX Try.prog 190 ⟨[strV s]⟩ [] W fun v _ => v = .int .i64 (oprD s) := by
  refine pureX hmix Try.func190 r190 (by kernel_rfl) [strV s] rfl ?_
  refine br_split (fun h1 => ?_) (fun h1 => ?_)
  · have h1 : s = [124] := h1
    exact ret_plain rfl fun _ _ => by rw [oprD, if_pos h1]; (first | done | rfl)
  have h1 : ¬ s = [124] := h1
  refine br_split (fun h2 => ?_) (fun h2 => ?_)
  · have h2 : s = [45] := h2
    exact ret_plain rfl fun _ _ => by rw [oprD, if_neg h1, if_pos h2]; (first | done | rfl)
  have h2 : ¬ s = [45] := h2
  exact ret_plain rfl fun _ _ => by rw [oprD, if_neg h1, if_neg h2]; (first | done | rfl)
end Go.Proofs.Ytcgbcbdgjhnlaaa

namespace Go.Proofs.Ytcgbcbdgjhnlaaa
open Go.RowKit

def nsD : ND → List NodeS
  | some (ns, _) => ns
  | none => []
theorem endI_neg {α : Type} {o : Option (α × Nat)} (h : endI o < 0) : o = none := by
  cases o with
  | none => rfl
  | some p => exact absurd h (by show ¬ (p.2 : Int) < 0; omega)
theorem endI_pos {α : Type} {o : Option (α × Nat)} {e : Int} (h : ¬ endI o < 0) (he : endI o = e) : ∃ (x : α) (j : Nat), o = some (x, j) ∧ e = j := by
  cases o with
  | none => exact absurd (by show (-1 : Int) < 0; decide) h
  | some p => exact ⟨p.1, p.2, rfl, he.symm⟩
theorem own_nil (xs : List Nat) (n₀ : Nat) (W : PW) : OwnS xs n₀ W (nodesO (.slice none 0 0) []) := ⟨⟨rfl, .inl ⟨rfl, rfl⟩⟩, fun b hb => by cases hb⟩
/-- The document's expression, at so much fuel. -/
def ExDC (N : Nat) (l : List Tok) (f : Nat) : Prop := ∀ (i least : Nat) (ns : List NodeS) (lv u : Value) (W : PW), l.length < i + f → i ≤ l.length → 1 ≤ least → least ≤ 3 → ns.length + 2 * (l.length - i) ≤ 60000 → (∃ A c, lv = .slice A ns.length c) → RP (tokC N) W u l → OwnS lv.ownBlock.toList W.w.heap.size W (nodesO lv ns) →
  CallsX Try.prog 184 ⟨[u, .int .i64 i, .int .i64 least, lv]⟩ lv.ownBlock.toList W fun v W' => ∃ lv', v = .tuple ⟨[lv', .int .i64 (endI (exprD l f i least ns))]⟩ ∧ OwnS lv.ownBlock.toList W.w.heap.size W' (nodesO lv' (nsD (exprD l f i least ns))) ∧ ∃ A c, lv' = .slice A (nsD (exprD l f i least ns)).length c
def tailX : MC := match m184.code with | .seq _ (.seq _ b) => b | c => c
structure XS where
  ns : List NodeS
  j : Nat
  A : Option Addr
  c : Nat
set_option maxHeartbeats 4000000 in
theorem exloop0 {N : Nat} {l : List Tok} (hl : l.length ≤ 16384 ∧ ∀ x ∈ l, x.t.length ≤ 16384) {f : Nat} (ih : ExDC N l f) {i0 least : Nat} {ns0 : List NodeS} (h1 : 1 ≤ least) (h3 : least ≤ 3) (hi0 : l.length < i0 + (f + 1)) {lv0 u : Value} {W0 : PW} (hu : RP (tokC N) W0 u l)
    (fr : Fr) (W1 : PW) (l01 : W0.Le W1) (ns : List NodeS) (j : Nat) (A : Option Addr) (c : Nat) (hij : i0 < j) (hj : j ≤ l.length) (hns : ns.length + 2 * (l.length - j) ≤ 60000)
    (hres : exprD l (f + 1) i0 least ns0 = loopD (exprD l f) l least (l.length + 1 - j) ns j) :
    vc Try.prog ⟨W0, lv0.ownBlock.toList, []⟩ (setL [(0, .v u), (1, .v (.int .i64 j)), (2, .v (.int .i64 least)), (3, .v (.slice A ns.length c))] fr) ⟨[], [nodesO (.slice A ns.length c) ns], W1⟩
      (retK ⟨W0, lv0.ownBlock.toList, []⟩ m184.rs fun v W' => ∃ lv', v = .tuple ⟨[lv', .int .i64 (endI (exprD l (f + 1) i0 least ns0))]⟩ ∧ OwnS lv0.ownBlock.toList W0.w.heap.size W' (nodesO lv' (nsD (exprD l (f + 1) i0 least ns0))) ∧ ∃ A c, lv' = .slice A (nsD (exprD l (f + 1) i0 least ns0)).length c) tailX := by
  have hll := hl.1
  have hmax := maxLen_big
  obtain ⟨A0, c0, rfl, _, _⟩ := hu.form
  refine ⟨XS, fun t => [(1, .v (.int .i64 t.j)), (3, .v (.slice t.A t.ns.length t.c))], fun _ => [], fun t => [nodesO (.slice t.A t.ns.length t.c) t.ns],
    fun t W => i0 < t.j ∧ t.j ≤ l.length ∧ t.ns.length + 2 * (l.length - t.j) ≤ 60000 ∧ ∃ m, l.length < t.j + m ∧ exprD l (f + 1) i0 least ns0 = loopD (exprD l f) l least m t.ns t.j, fun t => l.length - t.j, ⟨ns, j, A, c⟩,
    all_sl ⟨rfl, rfl, trivial⟩, rfl, ole_refl _, ⟨hij, hj, hns, l.length + 1 - j, by dsimp only; omega, hres⟩, loopOK (fun _ => ⟨⟨trivial, rfl⟩, ⟨trivial, rfl⟩, trivial⟩) (fun _ => rfl) (fun _ => rfl), ?_⟩
  rintro ⟨ns2, j2, A2, c2⟩ W2 l2 ⟨hij2, hj2, hns2, m, hm, hres2⟩ fr2
  dsimp only at hij2 hj2 hns2 hm hres2
  obtain ⟨m', rfl⟩ : ∃ m', m = m' + 1 := ⟨m - 1, by omega⟩
  simp only [loopD] at hres2
  have l02 := l01.trans l2
  refine call_v rfl (fun W' lw => rankd_x N l hl.1 j2 _ W' (hu.mono (l02.trans lw))) (fun W3 v W4 l3 l4 hv => ?_)
  obtain ⟨rk, hrk, rfl⟩ : ∃ rk, rankD l j2 = rk ∧ v = .int .i64 (rk : Nat) := ⟨_, rfl, hv⟩
  rw [hrk] at hres2
  refine ⟨rfl, br_split (fun hq => ?_) (fun hq => ?_)⟩
  rotate_left
  · have hq : ¬ (least : Int) ≤ rk := hq
    rw [if_neg (by omega)] at hres2
    refine ret_own (i := 0) rfl rfl rfl fun W' _ hw => ?_
    rw [hres2]
    exact ⟨_, rfl, hw, _, _, rfl⟩
  have hq : (least : Int) ≤ rk := hq
  rw [if_pos (by omega)] at hres2
  have hr2 := rankD_lt (l := l) (i := j2) (by omega)
  rw [hrk] at hr2
  obtain ⟨hjl, hrk2⟩ := hr2
  have l04 := l02.trans (l3.trans l4)
  obtain ⟨a, rfl, hx, hrd⟩ := tok_at hu l04 (i := j2) hjl
  refine ⟨rfl, _, (i64_in ((ns2.length : Int) - 1) ⟨by omega, by omega⟩).symm, ⟨by dsimp only; omega, by dsimp only; omega⟩, a, rfl, strV (txD l j2), hrd.o, ?_⟩
  refine call_v rfl (fun W' _ => oprd_x (txD l j2) W') (fun W5 v W6 l5 l6 hv => ?_)
  obtain ⟨op, hop, rfl⟩ : ∃ op, oprD (txD l j2) = op ∧ v = .int .i64 (op : Nat) := ⟨_, rfl, hv⟩
  have w1 : IntKind.i64.wrap ((j2 : Int) + 1) = ((j2 + 1 : Nat) : Int) := by rw [i64_in _ ⟨by omega, by omega⟩]; omega
  have wr1 : IntKind.i64.wrap ((rk : Int) + 1) = ((rk + 1 : Nat) : Int) := by rw [i64_in _ ⟨by omega, by omega⟩]; omega
  have l06 := l04.trans (l5.trans l6)
  refine ⟨rfl, _, w1.symm, ?_⟩
  refine call_v rfl (fun W' lw => rankd_x N l hl.1 j2 _ W' (hu.mono (l06.trans lw))) (fun W7 v W8 l7 l8 hv => ?_)
  rw [hrk] at hv
  subst hv
  have l08 := l06.trans (l7.trans l8)
  refine ⟨rfl, _, wr1.symm, ?_⟩
  obtain ⟨nsx, hnsx⟩ : ∃ nsx, nsD (exprD l f (j2 + 1) (rk + 1) ns2) = nsx := ⟨_, rfl⟩
  refine call_O (i := 0) rfl rfl rfl k184 (fun W' lw hown1 => (ih (j2 + 1) (rk + 1) ns2 _ _ W' (by omega) (by omega) (by omega) (by omega) (by omega) ⟨A2, c2, rfl⟩ (hu.mono (l08.trans lw)) hown1).mono fun v W10 ⟨lv', hv, hown10, A11, c11, hv11⟩ l10 => ⟨nodesO lv' nsx, hnsx ▸ hown10, ?_⟩)
  rw [hop] at hres2
  have hfit := exprD_fit l f (j2 + 1) (rk + 1) ns2
  obtain ⟨e, he, rfl⟩ : ∃ e, endI (exprD l f (j2 + 1) (rk + 1) ns2) = e ∧ v = .tuple ⟨[lv', .int .i64 e]⟩ := ⟨_, rfl, hv⟩
  refine ⟨_, rfl, _, rfl, rfl, br_split (fun hneg => ?_) (fun hneg => ?_)⟩
  · have hx2 := endI_neg (he ▸ hneg)
    rw [hx2] at hres2
    refine ret_plain rfl fun W' _ => ?_
    rw [hres2]
    exact ⟨_, rfl, own_nil _ _ _, _, _, rfl⟩
  · obtain ⟨ns', j', hx2, rfl⟩ := endI_pos (he ▸ hneg) he
    rw [hx2] at hres2 hv11 hnsx
    obtain ⟨f1, f2, f3, f4⟩ := hfit ns' j' (by omega) hx2
    have hv11 : lv' = .slice A11 ns'.length c11 := hv11
    obtain rfl : ns' = nsx := hnsx
    subst hv11
    dsimp only at hres2
    refine ⟨rfl, _, (i64_in ((ns'.length : Int) - 1) ⟨by omega, by omega⟩).symm, rfl, .inl fun b W12 l12 hrb => ⟨0, _, nodeC ⟨op, [], [], (ns2.length : Int) - 1, (ns'.length : Int) - 1⟩, rfl, rfl, rfl, rfl, rfl, nodeC_one _, fun _ => ⟨_, rfl, hrb.o⟩, by show ns'.length + 1 ≤ maxLen; omega, by show (ns'.length + 1) * 56 ≤ 140737488355328; omega, rfl, @fun A' c' _ => ?_⟩⟩
    refine ⟨⟨joinN op ns2 ns', j', A', c'⟩, all_sl ⟨rfl, ?_, trivial⟩, rfl, ole_eq ?_, ⟨by dsimp only; omega, by dsimp only; omega, ?_, m', by dsimp only; omega, hres2⟩, by dsimp only; omega⟩
    · show GV.v (.slice A' (ns'.length + 1) c') = .v (.slice A' (joinN op ns2 ns').length c')
      rw [joinN_len]
    · show [_] = [_]
      rw [joinN_len]
      exact congrArg (fun z => [z]) (nodesO_snoc A' c' ns' _).symm
    · dsimp only; rw [joinN_len]; omega
theorem setL_id {fr : Fr} {a b c d : GV} (h0 : fr 0 = a) (h1 : fr 1 = b) (h2 : fr 2 = c) (h3 : fr 3 = d) : setL [(0, a), (1, b), (2, c), (3, d)] fr = fr := by
  funext i
  match i with
  | 0 => exact h0.symm
  | 1 => exact h1.symm
  | 2 => exact h2.symm
  | 3 => exact h3.symm
  | i + 4 => rfl
theorem exloop {N : Nat} {l : List Tok} (hl : l.length ≤ 16384 ∧ ∀ x ∈ l, x.t.length ≤ 16384) {f : Nat} (ih : ExDC N l f) {i0 least : Nat} {ns0 : List NodeS} (h1 : 1 ≤ least) (h3 : least ≤ 3) (hi0 : l.length < i0 + (f + 1)) {lv0 u : Value} {W0 : PW} (hu : RP (tokC N) W0 u l)
    (fr : Fr) (W1 : PW) (l01 : W0.Le W1) (ns : List NodeS) (j : Nat) (A : Option Addr) (c : Nat) (O : List Own) (e0 : fr 0 = .v u) (e1 : fr 1 = .v (.int .i64 j)) (e2 : fr 2 = .v (.int .i64 least)) (e3 : fr 3 = .v (.slice A ns.length c)) (eO : O = [nodesO (.slice A ns.length c) ns]) (hij : i0 < j) (hj : j ≤ l.length) (hns : ns.length + 2 * (l.length - j) ≤ 60000)
    (hres : exprD l (f + 1) i0 least ns0 = loopD (exprD l f) l least (l.length + 1 - j) ns j) :
    vc Try.prog ⟨W0, lv0.ownBlock.toList, []⟩ fr ⟨[], O, W1⟩
      (retK ⟨W0, lv0.ownBlock.toList, []⟩ m184.rs fun v W' => ∃ lv', v = .tuple ⟨[lv', .int .i64 (endI (exprD l (f + 1) i0 least ns0))]⟩ ∧ OwnS lv0.ownBlock.toList W0.w.heap.size W' (nodesO lv' (nsD (exprD l (f + 1) i0 least ns0))) ∧ ∃ A c, lv' = .slice A (nsD (exprD l (f + 1) i0 least ns0)).length c) tailX := by
  subst eO
  have := exloop0 hl ih h1 h3 hi0 (lv0 := lv0) (ns0 := ns0) hu fr W1 l01 ns j A c hij hj hns hres
  rw [setL_id e0 e1 e2 e3] at this
  exact this
set_option maxHeartbeats 4000000 in
theorem exprd_x {N : Nat} {l : List Tok} (hl : l.length ≤ 16384 ∧ ∀ x ∈ l, x.t.length ≤ 16384) : ∀ f : Nat, ExDC N l f
  | 0 => fun i _ _ _ _ _ h1 h2 => by omega
  | f + 1 => by
    have ih := exprd_x (N := N) hl f
    intro i least ns lv u W hif hil h1 h3 hns ⟨A, c, hlv⟩ hu hown
    subst hlv
    have hll := hl.1
    have hmax := maxLen_big
    have hu0 := hu
    obtain ⟨A0, c0, rfl, _, _⟩ := hu.form
    have w1 : IntKind.i64.wrap ((i : Int) + 1) = ((i + 1 : Nat) : Int) := by rw [i64_in _ ⟨by omega, by omega⟩]; omega
    have w2 : IntKind.i64.wrap ((i : Int) + 2) = ((i + 2 : Nat) : Int) := by rw [i64_in _ ⟨by omega, by omega⟩]; omega
    have w3 : IntKind.i64.wrap ((i : Int) + 3) = ((i + 3 : Nat) : Int) := by rw [i64_in _ ⟨by omega, by omega⟩]; omega
    have hres : exprD l (f + 1) i least ns = match headD (exprD l f) l i ns with | some (ns', j) => loopD (exprD l f) l least (l.length + 1 - j) ns' j | none => none := rfl
    refine ownX (o := nodesO (.slice A ns.length c) ns) hmix Try.func184 r184 (by kernel_rfl) hown [.slice A0 l.length c0, .int .i64 i, .int .i64 least, .slice A ns.length c] rfl ?_
    refine call_v rfl (fun W' lw => isd_x N l hl.1 [40] i _ W' (hu.mono lw)) (fun W3 v W4 l3 l4 hv => ?_)
    obtain ⟨b, hb, rfl⟩ : ∃ b, isD l i [40] = b ∧ v = .bool b := ⟨_, rfl, hv⟩
    have l04 := l3.trans l4
    cases b with
    | true =>
      have hlt := isD_lt hb
      have hhead : headD (exprD l f) l i ns = closeD l (exprD l f (i + 1) 1 ns) := by rw [headD, if_pos hb]
      refine ⟨rfl, _, w1.symm, ?_⟩
      obtain ⟨nsx, hnsx⟩ : ∃ nsx, nsD (exprD l f (i + 1) 1 ns) = nsx := ⟨_, rfl⟩
      refine call_O (i := 0) rfl rfl rfl k184 (fun W' lw hown1 => (ih (i + 1) 1 ns _ _ W' (by omega) (by omega) (by omega) (by omega) (by omega) ⟨A, c, rfl⟩ (hu.mono (l04.trans lw)) hown1).mono fun v W10 ⟨lv', hv, hown10, A11, c11, hv11⟩ l10 => ⟨nodesO lv' nsx, hnsx ▸ hown10, ?_⟩)
      have hfit := exprD_fit l f (i + 1) 1 ns
      obtain ⟨e, he, rfl⟩ : ∃ e, endI (exprD l f (i + 1) 1 ns) = e ∧ v = .tuple ⟨[lv', .int .i64 e]⟩ := ⟨_, rfl, hv⟩
      refine ⟨_, rfl, _, rfl, rfl, ?_⟩
      apply br_split
      · intro hneg
        have hx2 := endI_neg (he ▸ hneg)
        rw [hx2] at hhead
        have hn : exprD l (f + 1) i least ns = none := by rw [hres, hhead]; (first | done | rfl)
        refine ret_plain rfl fun W' _ => ?_
        rw [hn]
        exact ⟨_, rfl, own_nil _ _ _, _, _, rfl⟩
      · intro hneg
        obtain ⟨ns', j', hx2, rfl⟩ := endI_pos (he ▸ hneg) he
        rw [hx2] at hv11 hhead hnsx
        obtain ⟨f1, f2, f3, f4⟩ := hfit ns' j' (by omega) hx2
        have hv11 : lv' = .slice A11 ns'.length c11 := hv11
        obtain rfl : ns' = nsx := hnsx
        subst hv11
        have l010 := l04.trans (by assumption : PW.Le W4 _)
        refine call_v rfl (fun W' lw => isd_x N l hl.1 [41] j' _ W' (hu.mono ((l010.trans l10).trans lw))) (fun W11 v W12 l11 l12 hv => ?_)
        obtain ⟨b, hb2, rfl⟩ : ∃ b, isD l j' [41] = b ∧ v = .bool b := ⟨_, rfl, hv⟩
        simp only [closeD, hb2] at hhead
        cases b with
        | false =>
          have hn : exprD l (f + 1) i least ns = none := by rw [hres, hhead]; (first | done | rfl)
          refine ret_plain rfl fun W' _ => ?_
          rw [hn]
          exact ⟨_, rfl, own_nil _ _ _, _, _, rfl⟩
        | true =>
          have hj := isD_lt hb2
          have wj : IntKind.i64.wrap ((j' : Int) + 1) = ((j' + 1 : Nat) : Int) := by rw [i64_in _ ⟨by omega, by omega⟩]; omega
          refine ⟨rfl, _, wj.symm, ?_⟩
          exact exloop hl ih h1 h3 hif hu _ _ ((l010.trans l10).trans (l11.trans l12)) ns' (j' + 1) A11 c11 _ rfl rfl rfl rfl rfl (by omega) (by omega) (by omega) (by rw [hres, hhead]; (first | done | rfl))
    | false =>
    have e0 : headD (exprD l f) l i ns = if isD l i kThis then some (ns ++ [⟨1, [], [], 0, 0⟩], i + 1)
      else if wordD l i && isD l (i + 1) [45, 62] then (if wordD l (i + 2) then some (ns ++ [⟨3, txD l i, txD l (i + 2), 0, 0⟩], i + 3) else none)
      else if wordD l i then some (ns ++ [⟨2, txD l i, [], 0, 0⟩], i + 1) else none := by rw [headD, if_neg (by rw [hb]; exact Bool.false_ne_true)]
    refine call_v rfl (fun W' lw => isd_x N l hl.1 kThis i _ W' (hu.mono (l04.trans lw))) (fun W5 v W6 l5 l6 hv => ?_)
    obtain ⟨b, hb2, rfl⟩ : ∃ b, isD l i kThis = b ∧ v = .bool b := ⟨_, rfl, hv⟩
    have l06 := l04.trans (l5.trans l6)
    rw [hb2] at e0
    cases b with
    | true =>
      have hlt := isD_lt hb2
      rw [if_pos rfl] at e0
      refine ⟨rfl, .inl fun b W7 l7 hrb => ⟨0, _, nodeC ⟨1, [], [], 0, 0⟩, rfl, rfl, rfl, rfl, rfl, nodeC_one _, fun _ => ⟨_, rfl, hrb.o⟩, by show ns.length + 1 ≤ maxLen; omega, by show (ns.length + 1) * 56 ≤ 140737488355328; omega, rfl, @fun A' c' _ => ?_⟩⟩
      refine ⟨rfl, _, w1.symm, ?_⟩
      refine exloop hl ih h1 h3 hif hu _ _ (l06.trans l7) (ns ++ [⟨1, [], [], 0, 0⟩]) (i + 1) A' c' _ rfl rfl rfl ?_ ?_ (by omega) (by omega) ?_ (by rw [hres, e0])
      · rw [List.length_append]; (first | done | rfl)
      · rw [List.length_append]; exact congrArg (fun z => [z]) (nodesO_snoc A' c' ns _).symm
      · rw [List.length_append, List.length_singleton]; omega
    | false =>
    rw [if_neg Bool.false_ne_true] at e0
    refine call_v rfl (fun W' lw => wordd_x N l hl i _ W' (hu.mono (l06.trans lw))) (fun W7 v W8 l7 l8 hv => ?_)
    obtain ⟨b, hb3, rfl⟩ : ∃ b, wordD l i = b ∧ v = .bool b := ⟨_, rfl, hv⟩
    have l08 := l06.trans (l7.trans l8)
    rw [hb3] at e0
    cases b with
    | false =>
      refine call_v rfl (fun W' lw => wordd_x N l hl i _ W' (hu.mono (l08.trans lw))) (fun W9 v W10 l9 l10 hv => ?_)
      rw [hb3] at hv; subst hv
      have hn : exprD l (f + 1) i least ns = none := by rw [hres, e0]; (first | done | rfl)
      refine ret_plain rfl fun W' _ => ?_
      rw [hn]
      exact ⟨_, rfl, own_nil _ _ _, _, _, rfl⟩
    | true =>
    have hlt := wordD_lt hb3
    refine ⟨rfl, _, w1.symm, ?_⟩
    refine call_v rfl (fun W' lw => isd_x N l hl.1 [45, 62] (i + 1) _ W' (hu.mono (l08.trans lw))) (fun W9 v W10 l9 l10 hv => ?_)
    obtain ⟨b, hb4, rfl⟩ : ∃ b, isD l (i + 1) [45, 62] = b ∧ v = .bool b := ⟨_, rfl, hv⟩
    have l010 := l08.trans (l9.trans l10)
    rw [hb4] at e0
    cases b with
    | true =>
      refine ⟨rfl, _, w2.symm, ?_⟩
      refine call_v rfl (fun W' lw => wordd_x N l hl (i + 2) _ W' (hu.mono (l010.trans lw))) (fun W11 v W12 l11 l12 hv => ?_)
      obtain ⟨b, hb5, rfl⟩ : ∃ b, wordD l (i + 2) = b ∧ v = .bool b := ⟨_, rfl, hv⟩
      have l012 := l010.trans (l11.trans l12)
      rw [hb5] at e0
      cases b with
      | false =>
        have hn : exprD l (f + 1) i least ns = none := by rw [hres, e0]; (first | done | rfl)
        refine ret_plain rfl fun W' _ => ?_
        rw [hn]
        exact ⟨_, rfl, own_nil _ _ _, _, _, rfl⟩
      | true =>
        have hlt2 := wordD_lt hb5
        obtain ⟨a, rfl, hx, hr1⟩ := tok_at hu l012 (i := i) (by omega)
        obtain ⟨a2, e2, hx2, hr2⟩ := tok_at hu l012 (i := i + 2) (by omega)
        rw [← Option.some.inj e2] at hr2
        refine ⟨⟨by omega, by omega⟩, a, rfl, strV (txD l i), hr1.o, rfl, _, w2.symm, ⟨by omega, by omega⟩, a, rfl, strV (txD l (i + 2)), hr2.o, ?_⟩
        refine ⟨rfl, .inl fun b W13 l13 hrb => ⟨0, _, nodeC ⟨3, txD l i, txD l (i + 2), 0, 0⟩, rfl, rfl, rfl, rfl, rfl, nodeC_one _, fun _ => ⟨_, rfl, hrb.o⟩, by show ns.length + 1 ≤ maxLen; omega, by show (ns.length + 1) * 56 ≤ 140737488355328; omega, rfl, @fun A' c' _ => ?_⟩⟩
        refine ⟨rfl, _, w3.symm, ?_⟩
        refine exloop hl ih h1 h3 hif hu0 _ _ (l012.trans l13) (ns ++ [⟨3, txD l i, txD l (i + 2), 0, 0⟩]) (i + 3) A' c' _ rfl rfl rfl ?_ ?_ (by omega) (by omega) ?_ (by rw [hres, e0]; (first | done | rfl))
        · rw [List.length_append]; (first | done | rfl)
        · rw [List.length_append]; exact congrArg (fun z => [z]) (nodesO_snoc A' c' ns _).symm
        · rw [List.length_append, List.length_singleton]; omega
    | false =>
      refine call_v rfl (fun W' lw => wordd_x N l hl i _ W' (hu.mono (l010.trans lw))) (fun W11 v W12 l11 l12 hv => ?_)
      rw [hb3] at hv; subst hv
      have l012 := l010.trans (l11.trans l12)
      obtain ⟨a, rfl, hx, hr1⟩ := tok_at hu l012 (i := i) (by omega)
      refine ⟨⟨by omega, by omega⟩, a, rfl, strV (txD l i), hr1.o, ?_⟩
      refine ⟨rfl, .inl fun b W13 l13 hrb => ⟨0, _, nodeC ⟨2, txD l i, [], 0, 0⟩, rfl, rfl, rfl, rfl, rfl, nodeC_one _, fun _ => ⟨_, rfl, hrb.o⟩, by show ns.length + 1 ≤ maxLen; omega, by show (ns.length + 1) * 56 ≤ 140737488355328; omega, rfl, @fun A' c' _ => ?_⟩⟩
      refine ⟨rfl, _, w1.symm, ?_⟩
      refine exloop hl ih h1 h3 hif hu0 _ _ (l012.trans l13) (ns ++ [⟨2, txD l i, [], 0, 0⟩]) (i + 1) A' c' _ rfl rfl rfl ?_ ?_ (by omega) (by omega) ?_ (by rw [hres, e0]; (first | done | rfl))
      · rw [List.length_append]; (first | done | rfl)
      · rw [List.length_append]; exact congrArg (fun z => [z]) (nodesO_snoc A' c' ns _).symm
      · rw [List.length_append, List.length_singleton]; omega
end Go.Proofs.Ytcgbcbdgjhnlaaa

namespace Go.Proofs.Ytcgbcbdgjhnlaaa
open Go.RowKit

structure DT2 where
  ts : List TypS
  i : Nat
  more : Bool
  A : Option Addr
  c : Nat
/-- What the document's relation answers. -/
def RelA (W : PW) (v : Value) : Option (RelS × Nat) → Prop
  | some (r, j) => ∃ cells, v = .tuple ⟨[.agg ⟨cells⟩, .int .i64 j]⟩ ∧ RelR W r cells
  | none => ∃ n tA tn tc nA nn nc, v = .tuple ⟨[.agg ⟨[strV n, .slice tA tn tc, .slice nA nn nc]⟩, .int .i64 (-1)]⟩
def finX (l : List Tok) (i : Nat) (ts : List TypS) (j : Nat) : Option (RelS × Nat) := match nodsD l j with
      | some (ns, k) => if isD l k [59] then some (⟨txD l i, ts, ns⟩, k + 1) else none
      | none => none
def endX (l : List Tok) (i : Nat) (ts : List TypS) (ns : List NodeS) (k : Nat) : Option (RelS × Nat) := if isD l k [59] then some (⟨txD l i, ts, ns⟩, k + 1) else none
def tailF : MC := match m169.code with | .seq _ (.seq _ (.seq _ (.seq _ (.seq _ (.seq _ (.seq _ b)))))) => b | c => c
def tailN : MC := match m169.code with | .seq _ (.seq _ (.seq _ (.seq _ (.seq _ (.seq _ b))))) => b | c => c
def endO (l : List Tok) (i : Nat) (ts : List TypS) : ND → Option (RelS × Nat)
  | some (ns, k) => endX l i ts ns k
  | none => none
set_option maxHeartbeats 4000000 in
theorem relF {N : Nat} {l : List Tok} (hl : l.length ≤ 16384 ∧ ∀ x ∈ l, x.t.length ≤ 16384) {i : Nat} {u : Value} {W : PW} (h : RP (tokC N) W u l) (fr : Fr) (W1 : PW) (l01 : W.Le W1) (ts : List TypS) (At : Option Addr) (ct : Nat) (o : ND) (An : Option Addr) (nn cn : Nat) (o2 : Own) (σ : List (List PV)) (O : List Own)
    (hfr : AllSl fr [(0, .v u), (1, .v (.int .i64 (endI o))), (4, .lp 0 0), (6, .lp 1 0)]) (eσ : σ = [[.v (strV []), .v (.slice none 0 0), .v (.slice none 0 0)], [.v (strV (txD l i)), .v (.slice At ts.length ct), .v (.slice An nn cn)]]) (eO : O = [typesO (.slice At ts.length ct) ts, o2])
    (ho : ∀ ns k, o = some (ns, k) → k ≤ l.length) (hres : relD l i = endO l i ts o) (hN : RP nodeC W1 (.slice An nn cn) (nsD o) ∨ o2 = nodesO (.slice An nn cn) (nsD o) ∧ nn = (nsD o).length) :
    vc Try.prog ⟨W, [], []⟩ fr ⟨σ, O, W1⟩ (retK ⟨W, [], []⟩ m169.rs fun v W' => RelA W' v (relD l i)) tailF := by
  subst eσ eO
  have hll := hl.1
  refine vc_at _ hfr ?_
  obtain ⟨e, he, he'⟩ : ∃ e, endI o = e ∧ e = endI o := ⟨_, rfl, rfl⟩
  rw [he]
  refine ⟨rfl, ?_⟩
  apply br_split
  · intro hneg
    have ho := endI_neg (he ▸ hneg)
    subst ho
    refine ret_plain rfl fun W' _ => ?_
    rw [hres]; exact ⟨_, _, _, _, _, _, _, rfl⟩
  intro hneg
  obtain ⟨ns, k, rfl, rfl⟩ := endI_pos (he ▸ hneg) he
  have hk := ho ns k rfl
  refine call_v rfl (fun W' lw => isd_x N l hl.1 [59] k _ W' (h.mono (l01.trans lw))) (fun W5 v W6 l5 l6 hv => ?_)
  obtain ⟨b, hb2, rfl⟩ : ∃ b, isD l k [59] = b ∧ v = .bool b := ⟨_, rfl, hv⟩
  cases b with
  | false =>
    have e : relD l i = none := by rw [hres]; show endX l i ts ns k = none; rw [endX, if_neg (by rw [hb2]; exact Bool.false_ne_true)]
    refine ret_plain rfl fun W' _ => ?_
    rw [e]; exact ⟨_, _, _, _, _, _, _, rfl⟩
  | true =>
    have e : relD l i = some (⟨txD l i, ts, ns⟩, k + 1) := by rw [hres]; show endX l i ts ns k = _; rw [endX, if_pos hb2]
    have wk : IntKind.i64.wrap ((k : Int) + 1) = ((k + 1 : Nat) : Int) := by rw [i64_in _ ⟨by omega, by omega⟩]; omega
    refine ⟨rfl, _, wk.symm, ?_⟩
    rw [e]
    refine RetVC.freeze (fun _ hb => hb) (i := 0) rfl fun Wm lm hs0 => ?_
    rcases hN with hN | ⟨rfl, rfl⟩
    · refine ret_plain rfl fun W' lw => ?_
      exact ⟨_, rfl, _, _, rfl, SlRead.mono hs0 lw, hN.mono (l5.trans (l6.trans (lm.trans lw)))⟩
    · refine RetVC.freeze (fun _ hb => hb) (i := 0) rfl fun Wn ln hs1 => ?_
      refine ret_plain rfl fun W' lw => ?_
      exact ⟨_, rfl, _, _, rfl, SlRead.mono hs0 (ln.trans lw), SlRead.mono hs1 lw⟩
set_option maxHeartbeats 4000000 in
theorem relN_vc {N : Nat} {l : List Tok} (hl : l.length ≤ 16384 ∧ ∀ x ∈ l, x.t.length ≤ 16384) {i : Nat} {u : Value} {W : PW} (h : RP (tokC N) W u l) (fr : Fr) (W1 : PW) (l01 : W.Le W1) (ts : List TypS) (j : Nat) (hj : j ≤ l.length) (At : Option Addr) (ct bn : Nat) (σ : List (List PV)) (O : List Own)
    (hfr : AllSl fr [(0, .v u), (1, .v (.int .i64 j)), (4, .lp 0 0), (6, .lp 1 0)]) (eσ : σ = [[.v (strV []), .v (.slice none 0 0), .v (.slice none 0 0)], [.v (strV (txD l i)), .v (.slice At ts.length ct), .v (.slice (some ⟨bn, 0, none⟩) 1 1)]]) (eO : O = [typesO (.slice At ts.length ct) ts, nilO 93 5])
    (hN : Rds W1 ⟨bn, 0, none⟩ (nodeC thisN)) (hres : relD l i = finX l i ts j) :
    vc Try.prog ⟨W, [], []⟩ fr ⟨σ, O, W1⟩ (retK ⟨W, [], []⟩ m169.rs fun v W' => RelA W' v (relD l i)) tailN := by
  subst eσ eO
  have hll := hl.1
  have hmax := maxLen_big
  refine vc_at _ hfr ?_
  refine vc_cut (fun f' S' => ∃ (o : ND) (An : Option Addr) (nn cn : Nat) (o2 : Own) (W1' : PW), S' = ⟨[[.v (strV []), .v (.slice none 0 0), .v (.slice none 0 0)], [.v (strV (txD l i)), .v (.slice At ts.length ct), .v (.slice An nn cn)]], [typesO (.slice At ts.length ct) ts, o2], W1'⟩ ∧ W.Le W1' ∧
    AllSl f' [(0, .v u), (1, .v (.int .i64 (endI o))), (4, .lp 0 0), (6, .lp 1 0)] ∧ (∀ ns k, o = some (ns, k) → k ≤ l.length) ∧ (relD l i = endO l i ts o) ∧ (RP nodeC W1' (.slice An nn cn) (nsD o) ∨ o2 = nodesO (.slice An nn cn) (nsD o) ∧ nn = (nsD o).length)) ?_ ?_
  rotate_left
  · rintro f' S' ⟨o, An, nn, cn, o2, W1', rfl, l01', hfr, ho, hres, hN⟩
    exact relF hl h f' W1' l01' ts At ct o An nn cn o2 _ _ hfr rfl rfl ho hres hN
  have wj : IntKind.i64.wrap ((j : Int) + 1) = ((j + 1 : Nat) : Int) := by rw [i64_in _ ⟨by omega, by omega⟩]; omega
  refine call_v rfl (fun W' lw => isd_x N l hl.1 [61] j _ W' (h.mono (l01.trans lw))) (fun W5 v W6 l5 l6 hv => ?_)
  obtain ⟨b, hb2, rfl⟩ : ∃ b, isD l j [61] = b ∧ v = .bool b := ⟨_, rfl, hv⟩
  have l06 := l01.trans (l5.trans l6)
  have hfin : relD l i = endO l i ts (nodsD l j) := by
    rw [hres, finX]; cases nodsD l j <;> rfl
  cases b with
  | false =>
    have e : nodsD l j = some ([thisN], j) := by rw [nodsD, if_neg (by rw [hb2]; exact Bool.false_ne_true)]
    rw [e] at hfin
    exact ⟨some ([thisN], j), some ⟨bn, 0, none⟩, 1, 1, nilO 93 5, W6, rfl, l06, ⟨rfl, rfl, rfl, rfl, trivial⟩, fun ns k e => by cases e; exact hj, hfin, .inl (SlRead.of_rds (hN.mono (l5.trans l6)) (by omega))⟩
  | true =>
    have e : nodsD l j = exprD l (l.length + 1) (j + 1) 1 [] := by rw [nodsD, if_pos hb2]
    have hjl := isD_lt hb2
    have hle := fun ns k => exprD_fit l (l.length + 1) (j + 1) 1 [] ns k (Nat.le_refl _)
    rw [e] at hfin
    refine ⟨rfl, _, wj.symm, ?_⟩
    obtain ⟨o, ho⟩ : ∃ o, exprD l (l.length + 1) (j + 1) 1 [] = o := ⟨_, rfl⟩
    refine call_O (i := 1) rfl rfl rfl k184 (fun W' lw hown1 => (exprd_x (N := N) hl (l.length + 1) (j + 1) 1 [] _ _ W' (by omega) (by omega) (by omega) (by omega) (by simp only [List.length_nil]; omega) ⟨none, 0, rfl⟩ (h.mono (l06.trans lw)) hown1).mono fun v W10 ⟨lv', hv, hown10, A11, c11, hv11⟩ l10 => ⟨nodesO lv' (nsD o), ho ▸ hown10, ?_⟩)
    rw [ho] at hv11 hv
    subst hv11
    subst hv
    rw [ho] at hfin hle
    refine ⟨_, rfl, _, rfl, ?_⟩
    exact ⟨o, A11, (nsD o).length, c11, nodesO (.slice A11 (nsD o).length c11) (nsD o), W10, rfl, l06.trans (lw.trans l10), ⟨rfl, rfl, rfl, rfl, trivial⟩, fun ns k e => (hle ns k e).2.1, hfin, .inr ⟨rfl, rfl⟩⟩
set_option maxHeartbeats 4000000 in
theorem reld_x (N : Nat) (l : List Tok) (hl : l.length ≤ 16384 ∧ ∀ x ∈ l, x.t.length ≤ 16384) (i : Nat) (hi : i ≤ l.length) (u : Value) (W : PW) (h : RP (tokC N) W u l) : CallsX Try.prog 169 ⟨[u, .int .i64 i]⟩ [] W fun v W' => RelA W' v (relD l i) := by
  have hll := hl.1
  have hmax := maxLen_big
  have h0 := h
  obtain ⟨A, c, rfl, _, _⟩ := h.form
  refine pureNX hmix Try.func169 r169 (by kernel_rfl) [nilO 166 2, nilO 93 5] rfl [.slice A l.length c, .int .i64 i] rfl ?_
  have w1 : IntKind.i64.wrap ((i : Int) + 1) = ((i + 1 : Nat) : Int) := by rw [i64_in _ ⟨by omega, by omega⟩]; omega
  refine vc_assoc (vc_assoc (vc_assoc (vc_assoc (vc_assoc (vc_cut (fun f' S' => ∃ (ts : List TypS) (j : Nat) (At : Option Addr) (ct bn : Nat) (W1 : PW), S' = ⟨[[.v (strV []), .v (.slice none 0 0), .v (.slice none 0 0)], [.v (strV (txD l i)), .v (.slice At ts.length ct), .v (.slice (some ⟨bn, 0, none⟩) 1 1)]], [typesO (.slice At ts.length ct) ts, nilO 93 5], W1⟩ ∧ W.Le W1 ∧ j ≤ l.length ∧
    AllSl f' [(0, .v (.slice A l.length c)), (1, .v (.int .i64 j)), (4, .lp 0 0), (6, .lp 1 0)] ∧ Rds W1 ⟨bn, 0, none⟩ (nodeC thisN) ∧ relD l i = finX l i ts j) ?_ ?_)))))
  rotate_left
  · rintro f' S' ⟨ts, j, At, ct, bn, W1, rfl, l01, hj, hfr, hN, hres⟩
    exact relN_vc hl h f' W1 l01 ts j hj At ct bn _ _ hfr rfl rfl hN hres
  refine ⟨rfl, .inl fun bn W1 l1 hrn => ?_⟩
  refine call_v rfl (fun W' lw => wordd_x N l hl i _ W' (h.mono (l1.trans lw))) (fun W3 v W4 l3 l4 hv => ?_)
  obtain ⟨b, hb, rfl⟩ : ∃ b, wordD l i = b ∧ v = .bool b := ⟨_, rfl, hv⟩
  have l04 := l1.trans (l3.trans l4)
  cases b with
  | false =>
    have e : relD l i = none := by rw [relD, if_neg (by rw [hb]; exact Bool.false_ne_true)]
    refine ret_plain rfl fun W' _ => ?_
    rw [e]; exact ⟨_, _, _, _, _, _, _, rfl⟩
  | true =>
  have hil := wordD_lt hb
  have e0 : relD l i = match typsD l (i + 1) with
    | some (ts, j) => finX l i ts j
    | none => none := by rw [relD, if_pos hb]; (first | done | rfl)
  obtain ⟨a, rfl, hx, hr1⟩ := tok_at h l04 (i := i) hil
  refine ⟨⟨by omega, by omega⟩, a, rfl, strV (txD l i), hr1.o, rfl, _, w1.symm, ?_⟩
  refine call_v rfl (fun W' lw => isd_x N l hl.1 [58] (i + 1) _ W' (h.mono (l04.trans lw))) (fun W5 v W6 l5 l6 hv => ?_)
  obtain ⟨b, hb2, rfl⟩ : ∃ b, isD l (i + 1) [58] = b ∧ v = .bool b := ⟨_, rfl, hv⟩
  have l06 := l04.trans (l5.trans l6)
  have hrn6 := hrn.mono (l3.trans (l4.trans (l5.trans l6)))
  cases b with
  | false =>
    have e : typsD l (i + 1) = some ([], i + 1) := by rw [typsD, if_neg (by rw [hb2]; exact Bool.false_ne_true)]
    rw [e] at e0
    exact ⟨[], i + 1, none, 0, bn, W6, rfl, l06, by omega, ⟨rfl, rfl, rfl, rfl, trivial⟩, hrn6, e0⟩
  | true =>
    have hil2 := isD_lt hb2
    have e : typsD l (i + 1) = typesD l (l.length + 1 - (i + 1)) [] (i + 1) := by rw [typsD, if_pos hb2]
    refine ⟨DT2, fun t => [(1, .v (.int .i64 t.i)), (7, .v (.bool t.more))], fun t => [[.v (strV []), .v (.slice none 0 0), .v (.slice none 0 0)], [.v (strV (txD l i)), .v (.slice t.A t.ts.length t.c), .v (.slice (some ⟨bn, 0, none⟩) 1 1)]], fun t => [typesO (.slice t.A t.ts.length t.c) t.ts, nilO 93 5],
      fun t _ => t.i ≤ l.length ∧ t.ts.length ≤ t.i ∧ (t.more = true → ∃ m, l.length < t.i + m ∧ typsD l (i + 1) = typesD l m t.ts t.i) ∧ (t.more = false → typsD l (i + 1) = some (t.ts, t.i)), fun t => 2 * (l.length - t.i) + (if t.more then 1 else 0), ⟨[], i + 1, true, none, 0⟩,
      all_sl ⟨rfl, rfl, trivial⟩, rfl, ole_refl _, ⟨by dsimp only; omega, Nat.zero_le _, fun _ => ⟨_, by dsimp only; omega, e⟩, fun h => by cases h⟩, loopOK (fun _ => ⟨⟨trivial, rfl⟩, ⟨trivial, rfl⟩, trivial⟩) (fun _ => rfl) (fun _ => rfl), ?_⟩
    rintro ⟨ts, j, more, At, ct⟩ W7 l7 ⟨hj, hts, hm1, hm2⟩ fr
    dsimp only at hj hts hm1 hm2
    have l07 := l06.trans l7
    have hrn7 := hrn6.mono l7
    cases more with
    | false =>
      have hm2 := hm2 rfl
      rw [hm2] at e0
      exact ⟨ts, j, At, ct, bn, W7, rfl, l07, hj, ⟨rfl, rfl, rfl, rfl, trivial⟩, hrn7, e0⟩
    | true =>
      obtain ⟨m, hm, hm1⟩ := hm1 rfl
      obtain ⟨m', rfl⟩ : ∃ m', m = m' + 1 := ⟨m - 1, by omega⟩
      simp only [typesD] at hm1
      have wj : IntKind.i64.wrap ((j : Int) + 1) = ((j + 1 : Nat) : Int) := by rw [i64_in _ ⟨by omega, by omega⟩]; omega
      refine ⟨rfl, _, wj.symm, ?_⟩
      refine call_v rfl (fun W' lw => kindd_x N l hl (j + 1) (by omega) _ W' (h.mono (l07.trans lw))) (fun W8 v W9 l8 l9 hv => ?_)
      have l09 := l07.trans (l8.trans l9)
      obtain ⟨tt, htt, hv⟩ : ∃ tt, kindVD l (j + 1) = tt ∧ v = .tuple ⟨[.agg ⟨typC tt⟩, .int .i64 (endI (kindD l (j + 1)))]⟩ := ⟨_, rfl, hv⟩
      unfold kindVD at htt
      obtain ⟨o, ho⟩ : ∃ o, kindD l (j + 1) = o := ⟨_, rfl⟩
      rw [ho] at htt hv
      obtain ⟨ee, he, rfl⟩ : ∃ e, endI o = e ∧ v = .tuple ⟨[.agg ⟨typC tt⟩, .int .i64 e]⟩ := ⟨_, rfl, hv⟩
      rw [ho] at hm1
      refine ⟨_, rfl, _, rfl, rfl, ?_⟩
      apply br_split
      · intro hneg
        have hon := endI_neg (he ▸ hneg)
        rw [hon] at hm1
        have e : relD l i = none := by rw [e0, hm1]
        refine ret_plain rfl fun W' _ => ?_
        rw [e]; exact ⟨_, _, _, _, _, _, _, rfl⟩
      intro hneg
      obtain ⟨tt', k, rfl, rfl⟩ := endI_pos (he ▸ hneg) he
      obtain rfl : tt' = tt := htt
      have hk := kindD_le ho
      dsimp only at hm1
      refine ⟨rfl, .inl fun b Wa la hra => ⟨0, _, typC tt', rfl, rfl, rfl, rfl, rfl, typC_one _, fun _ => ⟨_, rfl, hra.o⟩, by show ts.length + 1 ≤ maxLen; omega, by show (ts.length + 1) * 32 ≤ 140737488355328; omega, rfl, @fun A' c' _ => ?_⟩⟩
      refine call_v rfl (fun W' lw => isd_x N l hl.1 [124] k _ W' (h.mono ((l09.trans la).trans lw))) (fun Wb v Wc lb lc hv => ?_)
      obtain ⟨b, hb3, rfl⟩ : ∃ b, isD l k [124] = b ∧ v = .bool b := ⟨_, rfl, hv⟩
      rw [hb3] at hm1
      refine ⟨⟨ts ++ [tt'], k, b, A', c'⟩, all_sl ⟨rfl, rfl, trivial⟩, ?_, ole_eq ?_, ⟨hk.2, ?_, ?_, ?_⟩, ?_⟩
      · dsimp only; rw [List.length_append]; (first | done | rfl)
      · dsimp only; rw [List.length_append]; exact congrArg (fun z => [z, nilO 93 5]) (typesO_snoc A' c' ts tt').symm
      · simp only [List.length_append, List.length_singleton]; omega
      · intro hbt
        rw [show b = true from hbt, if_pos rfl] at hm1
        exact ⟨m', by dsimp only; omega, hm1⟩
      · intro hbf
        rw [show b = false from hbf, if_neg Bool.false_ne_true] at hm1
        exact hm1
      · dsimp only; split <;> simp only [if_true] <;> omega
end Go.Proofs.Ytcgbcbdgjhnlaaa

namespace Go.Proofs.Ytcgbcbdgjhnlaaa
open Go.RowKit

def SpA (W : PW) (v : Value) : Option (SpaceS × Nat) → Prop
  | some (s, j) => ∃ cells, v = .tuple ⟨[.agg ⟨cells⟩, .int .i64 j]⟩ ∧ SpR W s cells
  | none => ∃ n A k c, v = .tuple ⟨[.agg ⟨[strV n, .slice A k c]⟩, .int .i64 (-1)]⟩
structure DS where
  rs : List RelS
  css : List (List Value)
  i : Nat
  A : Option Addr
  c : Nat
set_option maxHeartbeats 4000000 in
theorem spaced_x (N : Nat) (l : List Tok) (hl : l.length ≤ 16384 ∧ ∀ x ∈ l, x.t.length ≤ 16384) (i : Nat) (hi : i ≤ l.length) (u : Value) (W : PW) (h : RP (tokC N) W u l) : CallsX Try.prog 143 ⟨[u, .int .i64 i]⟩ [] W fun v W' => SpA W' v (spaceD l i) := by
  have hll := hl.1
  have hmax := maxLen_big
  obtain ⟨A, c, rfl, _, _⟩ := h.form
  refine pureNX hmix Try.func143 r143 (by kernel_rfl) [nilO 88 3] rfl [.slice A l.length c, .int .i64 i] rfl ?_
  have w1 : IntKind.i64.wrap ((i : Int) + 1) = ((i + 1 : Nat) : Int) := by rw [i64_in _ ⟨by omega, by omega⟩]; omega
  have w2 : IntKind.i64.wrap ((i : Int) + 2) = ((i + 2 : Nat) : Int) := by rw [i64_in _ ⟨by omega, by omega⟩]; omega
  refine call_v rfl (fun W' lw => wordd_x N l hl i _ W' (h.mono lw)) (fun W3 v W4 l3 l4 hv => ?_)
  obtain ⟨b, hb, rfl⟩ : ∃ b, wordD l i = b ∧ v = .bool b := ⟨_, rfl, hv⟩
  have l04 := l3.trans l4
  cases b with
  | false =>
    have e : spaceD l i = none := by rw [spaceD, hb]; (first | done | rfl)
    refine ret_plain rfl fun W' _ => ?_
    rw [e]; exact ⟨_, _, _, _, rfl⟩
  | true =>
  have hil := wordD_lt hb
  refine ⟨rfl, _, w1.symm, ?_⟩
  refine call_v rfl (fun W' lw => isd_x N l hl.1 [123] (i + 1) _ W' (h.mono (l04.trans lw))) (fun W5 v W6 l5 l6 hv => ?_)
  obtain ⟨b, hb2, rfl⟩ : ∃ b, isD l (i + 1) [123] = b ∧ v = .bool b := ⟨_, rfl, hv⟩
  have l06 := l04.trans (l5.trans l6)
  cases b with
  | false =>
    have e : spaceD l i = none := by rw [spaceD, hb, hb2]; (first | done | rfl)
    refine ret_plain rfl fun W' _ => ?_
    rw [e]; exact ⟨_, _, _, _, rfl⟩
  | true =>
  have hil2 := isD_lt hb2
  have e0 : spaceD l i = match relsD l (l.length + 1) [] (i + 2) with
    | some (rs, j) => if isD l j [125] then some (⟨txD l i, rs⟩, j + 1) else none
    | none => none := by rw [spaceD, hb, hb2]; (first | done | rfl)
  obtain ⟨RR, hRR⟩ : ∃ RR, relsD l (l.length + 1) [] (i + 2) = RR := ⟨_, rfl⟩
  rw [hRR] at e0
  obtain ⟨a, rfl, hx, hr1⟩ := tok_at h l06 (i := i) hil
  refine ⟨⟨by omega, by omega⟩, a, rfl, strV (txD l i), hr1.o, rfl, _, w2.symm, ?_⟩
  refine ⟨DS, fun t => [(1, .v (.int .i64 t.i))], fun t => [[.v (strV []), .v (.slice none 0 0)], [.v (strV (txD l i)), .v (.slice t.A t.rs.length t.c)]], fun t => [⟨.slice t.A t.rs.length t.c, 88, 3, t.rs.length, t.css.flatten⟩],
    fun t W => LR RelR 3 W t.rs t.css ∧ t.i ≤ l.length ∧ t.rs.length ≤ t.i ∧ ∃ m, l.length < t.i + m ∧ RR = relsD l m t.rs t.i, fun t => l.length - t.i, ⟨[], [], i + 2, none, 0⟩,
    all_sl ⟨rfl, trivial⟩, rfl, ole_refl _, ⟨trivial, by dsimp only; omega, Nat.zero_le _, _, by dsimp only; omega, hRR.symm⟩, loopOK (fun _ => ⟨⟨trivial, rfl⟩, trivial⟩) (fun _ => rfl) (fun _ => rfl), ?_⟩
  rintro ⟨rs, css, j, A7, c7⟩ W7 l7 ⟨hL, hj, hrs, m, hm, hres⟩ fr
  dsimp only at hL hj hrs hm hres
  obtain ⟨m', rfl⟩ : ∃ m', m = m' + 1 := ⟨m - 1, by omega⟩
  simp only [relsD] at hres
  have l07 := l06.trans l7
  refine call_v rfl (fun W' lw => isd_x N l hl.1 kRelation j _ W' (h.mono (l07.trans lw))) (fun W8 v W9 l8 l9 hv => ?_)
  obtain ⟨b, hb3, rfl⟩ : ∃ b, isD l j kRelation = b ∧ v = .bool b := ⟨_, rfl, hv⟩
  rw [hb3] at hres
  have l09 := l07.trans (l8.trans l9)
  cases b with
  | false =>
    rw [if_neg Bool.false_ne_true] at hres
    rw [hres] at e0
    dsimp only at e0
    refine call_v rfl (fun W' lw => isd_x N l hl.1 [125] j _ W' (h.mono (l09.trans lw))) (fun Wa v Wb la lb hv => ?_)
    obtain ⟨b, hb4, rfl⟩ : ∃ b, isD l j [125] = b ∧ v = .bool b := ⟨_, rfl, hv⟩
    rw [hb4] at e0
    cases b with
    | false =>
      rw [if_neg Bool.false_ne_true] at e0
      refine ret_plain rfl fun W' _ => ?_
      rw [e0]; exact ⟨_, _, _, _, rfl⟩
    | true =>
      rw [if_pos rfl] at e0
      have wj : IntKind.i64.wrap ((j : Int) + 1) = ((j + 1 : Nat) : Int) := by rw [i64_in _ ⟨by omega, by omega⟩]; omega
      refine ⟨rfl, _, wj.symm, ?_⟩
      refine RetVC.freeze (fun _ hb => hb) (i := 0) rfl fun Wm lm hs0 => ?_
      refine ret_plain rfl fun W' lw => ?_
      rw [e0]
      exact ⟨_, rfl, _, rfl, css, hL.mono RelR.mono (l8.trans (l9.trans (la.trans (lb.trans (lm.trans lw))))), SlRead.mono hs0 lw⟩
  | true =>
    rw [if_pos rfl] at hres
    have hjl := isD_lt hb3
    have wj : IntKind.i64.wrap ((j : Int) + 1) = ((j + 1 : Nat) : Int) := by rw [i64_in _ ⟨by omega, by omega⟩]; omega
    refine ⟨rfl, _, wj.symm, ?_⟩
    refine call_v rfl (fun W' lw => reld_x N l hl (j + 1) (by omega) _ W' (h.mono (l09.trans lw))) (fun Wa v Wb la lb hv => ?_)
    cases hrd : relD l (j + 1) with
    | none =>
      rw [hrd] at hres hv
      obtain ⟨n, tA, tn, tc, nA, nn, nc, hv⟩ := hv
      obtain ⟨e, he, rfl⟩ : ∃ e : Int, e = -1 ∧ v = .tuple ⟨[.agg ⟨[strV n, .slice tA tn tc, .slice nA nn nc]⟩, .int .i64 e]⟩ := ⟨_, rfl, hv⟩
      rw [hres] at e0
      refine ⟨_, rfl, _, rfl, rfl, ?_⟩
      apply br_split
      · intro _
        refine ret_plain rfl fun W' _ => ?_
        rw [e0]; exact ⟨_, _, _, _, rfl⟩
      · intro hneg
        have hneg : ¬ e < 0 := hneg
        omega
    | some p =>
      obtain ⟨r, k⟩ := p
      rw [hrd] at hres hv
      obtain ⟨cells, hv, tv, nv, rfl, hT, hN⟩ := hv
      have hk := relD_le hrd
      obtain ⟨a1, c1, rfl, _, _⟩ := hT.form
      obtain ⟨a2, c2, rfl, _, _⟩ := hN.form
      obtain ⟨e, he, rfl⟩ : ∃ e : Int, e = k ∧ v = .tuple ⟨[.agg ⟨[strV r.name, .slice a1 r.types.length c1, .slice a2 r.nodes.length c2]⟩, .int .i64 e]⟩ := ⟨_, rfl, hv⟩
      dsimp only at hres
      refine ⟨_, rfl, _, rfl, rfl, ?_⟩
      apply br_split
      · intro hneg
        have hneg : e < 0 := hneg
        omega
      intro _
      refine ⟨rfl, .inl fun b Wc lc hrc => ⟨0, _, [strV r.name, .slice a1 r.types.length c1, .slice a2 r.nodes.length c2], rfl, rfl, rfl, rfl, rfl, ?_, fun _ => ⟨_, rfl, hrc.o⟩, by show rs.length + 1 ≤ maxLen; omega, by show (rs.length + 1) * 64 ≤ 140737488355328; omega, rfl, @fun A' c' _ => ?_⟩⟩
      · intro u hu
        simp only [List.mem_cons, List.not_mem_nil, or_false] at hu
        rcases hu with rfl | rfl | rfl <;> rfl
      refine ⟨⟨rs ++ [r], css ++ [[strV r.name, .slice a1 r.types.length c1, .slice a2 r.nodes.length c2]], k, A', c'⟩, all_sl ⟨congrArg (fun z => GV.v (.int .i64 z)) he, trivial⟩, ?_, ole_eq ?_, ⟨?_, hk.2, ?_, m', by dsimp only; omega, hres⟩, by dsimp only; omega⟩
      · dsimp only; rw [List.length_append]; (first | done | rfl)
      · dsimp only; rw [List.length_append, List.flatten_append]; simp only [List.flatten_cons, List.flatten_nil, List.append_nil]; (first | done | rfl)
      · exact LR.snoc (R := RelR) rfl (⟨_, _, rfl, hT.mono lc, hN.mono lc⟩ : RelR Wc _ _) (hL.mono RelR.mono (l8.trans (l9.trans (la.trans (lb.trans lc)))))
      · simp only [List.length_append, List.length_singleton]; omega
end Go.Proofs.Ytcgbcbdgjhnlaaa

namespace Go.Proofs.Ytcgbcbdgjhnlaaa
open Go.RowKit

def scVD (l : List Tok) (i : Nat) : ScopeS := match scopeD l i with | some (s, _) => s | none => ⟨[], noRef, []⟩
theorem cutL_no {c : UInt8} : ∀ {s : List UInt8}, c ∉ s → cutL c s = none
  | [], _ => rfl
  | x :: r, h => by
    have h1 : ¬ x = c := fun e => h (by rw [e]; exact List.mem_cons_self ..)
    have h2 := cutL_no (s := r) fun hm => h (List.mem_cons_of_mem _ hm)
    simp only [cutL, if_neg h1, h2]
theorem cutL_at {c : UInt8} {s : List UInt8} {i : Nat} (h1 : c ∉ s.take i) (h2 : s[i]? = some c) : cutL c s = some (s.take i, s.drop (i + 1)) := by
  have hl := (List.getElem?_eq_some_iff.1 h2).1
  have e : s = s.take i ++ c :: s.drop (i + 1) := by
    have := List.take_append_drop i s
    rw [List.drop_eq_getElem_cons hl] at this
    rw [List.getElem?_eq_getElem hl] at h2
    rw [Option.some.inj h2] at this
    exact this.symm
  have := cutL_app (s.drop (i + 1)) h1
  rw [← e] at this; exact this
theorem byteAt_eq {l : List UInt8} {i : Nat} (hi : i < l.length) (c : UInt8) : byteAt l i = c.toNat ↔ l[i]? = some c := by
  unfold byteAt
  rw [List.getElem?_eq_getElem hi]
  simp only [Option.getD_some, Option.some.injEq]
  constructor
  · intro h; exact UInt8.toNat_inj.1 (by omega)
  · intro h; rw [h]
theorem take_no {c : UInt8} {s : List UInt8} {i : Nat} (hi : i < s.length) (h : c ∉ s.take i) (h2 : ¬ s[i]? = some c) : c ∉ s.take (i + 1) := by
  rw [List.take_add_one]
  intro hm
  rcases List.mem_append.1 hm with hm | hm
  · exact h hm
  · rw [List.getElem?_eq_getElem hi] at hm h2
    simp at hm
    exact h2 (by rw [hm])
set_option maxHeartbeats 4000000 in
theorem scoped_x (N : Nat) (l : List Tok) (hl : l.length ≤ 16384 ∧ ∀ x ∈ l, x.t.length ≤ 16384) (i : Nat) (hi : i ≤ l.length) (u : Value) (W : PW) (h : RP (tokC N) W u l) : CallsX Try.prog 144 ⟨[u, .int .i64 i]⟩ [] W fun v _ => v = .tuple ⟨[.agg ⟨scopeC (scVD l i)⟩, .int .i64 (endI (scopeD l i))]⟩ := by
  have hll := hl.1
  have h0 := h
  obtain ⟨A, c, rfl, _, _⟩ := h.form
  refine pureX hmix Try.func144 r144 (by kernel_rfl) [.slice A l.length c, .int .i64 i] rfl ?_
  have w1 : IntKind.i64.wrap ((i : Int) + 1) = ((i + 1 : Nat) : Int) := by rw [i64_in _ ⟨by omega, by omega⟩]; omega
  have w2 : IntKind.i64.wrap ((i : Int) + 2) = ((i + 2 : Nat) : Int) := by rw [i64_in _ ⟨by omega, by omega⟩]; omega
  have w3 : IntKind.i64.wrap ((i : Int) + 3) = ((i + 3 : Nat) : Int) := by rw [i64_in _ ⟨by omega, by omega⟩]; omega
  have w4 : IntKind.i64.wrap ((i : Int) + 4) = ((i + 4 : Nat) : Int) := by rw [i64_in _ ⟨by omega, by omega⟩]; omega
  have no : scopeD l i = none → Value.tuple ⟨[.agg ⟨[strV [], strV [], strV [], strV []]⟩, .int .i64 (-1)]⟩ = .tuple ⟨[.agg ⟨scopeC (scVD l i)⟩, .int .i64 (endI (scopeD l i))]⟩ := fun e => by rw [scVD, e]; (first | done | rfl)
  refine vc_assoc (vc_assoc (vc_assoc (vc_assoc (vc_assoc (vc_cut (fun f' S' => ∃ (t : List UInt8) (j : Nat) (W1 : PW), S' = ⟨[[.v (strV []), .v (strV []), .v (strV []), .v (strV [])], [.v (strV []), .v (strV []), .v (strV []), .v (strV [])]], [], W1⟩ ∧ W.Le W1 ∧ i + 3 < l.length ∧ t.length ≤ 16384 ∧ txD l (i + 2) = t ∧
      AllSl f' [(0, .v (.slice A l.length c)), (1, .v (.int .i64 i)), (4, .lp 0 0), (6, .lp 1 0), (7, .v (strV t)), (8, .v (.int .i64 j))] ∧ (scopeD l i = match cutL 35 t with
        | some (a, b) => if isRefS (refR a) && wordS b then some (⟨txD l i, refR a, b⟩, i + 4) else none
        | none => none) ∧ ((j = t.length ∧ cutL 35 t = none) ∨ (j < t.length ∧ cutL 35 t = some (t.take j, t.drop (j + 1))))) ?_ ?_)))))
  · refine call_v rfl (fun W' lw => wordd_x N l hl i _ W' (h.mono lw)) (fun W3 v W4 l3 l4 hv => ?_)
    obtain ⟨b, hb, rfl⟩ : ∃ b, wordD l i = b ∧ v = .bool b := ⟨_, rfl, hv⟩
    have l04 := l3.trans l4
    cases b with
    | false => exact ret_plain rfl fun _ _ => no (by rw [scopeD, hb]; (first | done | rfl))
    | true =>
    have hil := wordD_lt hb
    refine ⟨rfl, _, w1.symm, ?_⟩
    refine call_v rfl (fun W' lw => isd_x N l hl.1 [61] (i + 1) _ W' (h.mono (l04.trans lw))) (fun W5 v W6 l5 l6 hv => ?_)
    obtain ⟨b, hb2, rfl⟩ : ∃ b, isD l (i + 1) [61] = b ∧ v = .bool b := ⟨_, rfl, hv⟩
    have l06 := l04.trans (l5.trans l6)
    cases b with
    | false => exact ret_plain rfl fun _ _ => no (by rw [scopeD, hb, hb2]; (first | done | rfl))
    | true =>
    refine ⟨rfl, _, w2.symm, rfl, ?_⟩
    apply br_split
    · intro hq
      have hq : (l.length : Int) ≤ ((i + 2 : Nat) : Int) := hq
      refine ret_plain rfl fun _ _ => no ?_
      have : txtD l (i + 2) = false := by rw [txtD, List.getElem?_eq_none (by omega)]
      rw [scopeD, hb, hb2, this]; (first | done | rfl)
    intro hq
    have hq : ¬ (l.length : Int) ≤ ((i + 2 : Nat) : Int) := hq
    have hq2 : i + 2 < l.length := by omega
    obtain ⟨pc, rfl, x, hx, hall, _, _⟩ := h.at (sz := 3) (tokC_len _) l06 (j := (i + 2 : Nat)) ⟨by omega, by omega⟩
    have hx : l[i + 2]? = some x := hx
    have hxt := hl.2 x (List.mem_of_getElem? hx)
    have etx : txD l (i + 2) = x.t := by rw [txD, hx]
    refine ⟨rfl, _, w2.symm, ⟨by omega, by omega⟩, pc, rfl, .int .i64 x.k, (hall 0 _ rfl).o, rfl, ?_⟩
    apply br_nsplit
    · intro hk
      have hk : ¬ (x.k : Int) = 2 := hk
      refine ret_plain rfl fun _ _ => no ?_
      have : txtD l (i + 2) = false := by rw [txtD, hx]; exact decide_eq_false (by omega)
      rw [scopeD, hb, hb2, this]; (first | done | rfl)
    intro hk
    have hk : (x.k : Int) = 2 := hk
    have hb3 : txtD l (i + 2) = true := by rw [txtD, hx]; exact decide_eq_true (by omega)
    refine ⟨rfl, _, w3.symm, ?_⟩
    refine call_v rfl (fun W' lw => isd_x N l hl.1 [59] (i + 3) _ W' (h.mono (l06.trans lw))) (fun W7 v W8 l7 l8 hv => ?_)
    obtain ⟨b, hb4, rfl⟩ : ∃ b, isD l (i + 3) [59] = b ∧ v = .bool b := ⟨_, rfl, hv⟩
    have l08 := l06.trans (l7.trans l8)
    cases b with
    | false => exact ret_plain rfl fun _ _ => no (by rw [scopeD, hb, hb2, hb3, hb4]; (first | done | rfl))
    | true =>
    have hi3 := isD_lt hb4
    have e0 : scopeD l i = match cutL 35 x.t with
        | some (a, b) => if isRefS (refR a) && wordS b then some (⟨txD l i, refR a, b⟩, i + 4) else none
        | none => none := by rw [scopeD, hb, hb2, hb3, hb4, etx]; (first | done | rfl)
    obtain ⟨t, ht⟩ : ∃ t, x.t = t := ⟨_, rfl⟩
    rw [ht] at e0 hxt etx
    refine ⟨rfl, _, w2.symm, ⟨by omega, by omega⟩, pc, rfl, strV t, ?_, ?_⟩
    · exact ((hall 1 (strV t) (by rw [← ht]; (first | done | rfl))).mono (l7.trans l8)).o
    refine ⟨Nat, fun j => [(8, .v (.int .i64 j))], fun _ => [[.v (strV []), .v (strV []), .v (strV []), .v (strV [])], [.v (strV []), .v (strV []), .v (strV []), .v (strV [])]], fun _ => [], fun j _ => j ≤ t.length ∧ (35 : UInt8) ∉ t.take j, fun j => t.length - j, 0,
      all_sl ⟨rfl, trivial⟩, rfl, ole_refl _, ⟨Nat.zero_le _, by simp⟩, loopOK (fun _ => ⟨⟨trivial, rfl⟩, trivial⟩) (fun _ => rfl) (fun _ => rfl), ?_⟩
    rintro j W9 l9 ⟨hj, hno⟩ fr
    refine ⟨rfl, ?_⟩
    apply br_split
    rotate_left
    · intro hq
      have hq : ¬ (j : Int) < t.length := hq
      rw [List.take_of_length_le (by omega)] at hno
      exact ⟨t, j, W9, rfl, l08.trans l9, hi3, hxt, etx, ⟨rfl, rfl, rfl, rfl, rfl, rfl, trivial⟩, e0, .inl ⟨by omega, cutL_no hno⟩⟩
    intro hq
    have hq : (j : Int) < t.length := hq
    have hjl : j < t.length := by omega
    refine ⟨⟨by omega, hq⟩, rfl, ?_⟩
    apply br_nsplit
    · intro hc
      have hc : ¬ byteAt t j = 35 := hc
      have hc := fun e => hc ((byteAt_eq hjl 35).2 e)
      exact ⟨rfl, _, (i64_in ((j : Int) + 1) ⟨by omega, by omega⟩).symm, j + 1, all_sl ⟨rfl, trivial⟩, rfl, ole_refl _, ⟨by omega, take_no hjl hno hc⟩, by dsimp only; omega⟩
    · intro hc
      have hc : byteAt t j = 35 := hc
      have hc := (byteAt_eq hjl 35).1 hc
      exact ⟨t, j, W9, rfl, l08.trans l9, hi3, hxt, etx, ⟨rfl, rfl, rfl, rfl, rfl, rfl, trivial⟩, e0, .inr ⟨hjl, cutL_at hno hc⟩⟩
  · rintro f' S' ⟨t, j, W1, rfl, l01, hi3, hxt, etx, hfr, e0, hcut⟩
    refine vc_at _ hfr ?_
    refine ⟨rfl, ?_⟩
    rcases hcut with ⟨rfl, hcut⟩ | ⟨hjl, hcut⟩
    · rw [hcut] at e0
      refine br_yes rfl ?_
      exact ret_plain rfl fun _ _ => no e0
    rw [hcut] at e0
    dsimp only at e0
    refine br_no (by show ¬ (j : Int) = t.length; omega) ?_
    have wj : IntKind.i64.wrap ((j : Int) + 1) = ((j + 1 : Nat) : Int) := by rw [i64_in _ ⟨by omega, by omega⟩]; omega
    have etk : t.length - (j + 1) = (t.drop (j + 1)).length := by rw [List.length_drop]
    refine ⟨⟨by omega, by omega, by show (j : Int) ≤ t.length; omega⟩, ?_⟩
    refine call_v rfl (fun W' _ => refref_x (t.take j) (by have := List.length_take_le j t; omega) W') (fun W3 v W4 l3 l4 hv => ?_)
    obtain ⟨rf, hrf⟩ : ∃ r, refR (t.take j) = r := ⟨_, rfl⟩
    rw [hrf] at hv e0
    obtain ⟨b, hb, rfl⟩ : ∃ b, isRefS rf = b ∧ v = .tuple ⟨[.agg ⟨refC rf⟩, .bool b]⟩ := ⟨_, rfl, hv⟩
    rw [hb] at e0
    have l04 := l01.trans (l3.trans l4)
    refine ⟨_, rfl, _, rfl, ?_⟩
    cases b with
    | false => exact ret_plain rfl fun _ _ => no e0
    | true =>
    refine ⟨rfl, _, wj.symm, ⟨by omega, by show ((j + 1 : Nat) : Int) ≤ t.length; omega, Int.le_refl _⟩, ?_⟩
    obtain ⟨d, hd⟩ : ∃ d, d = (t.drop (j + 1)).take (t.length - (j + 1)) := ⟨_, rfl⟩
    have hd2 : d = t.drop (j + 1) := by rw [hd, List.take_of_length_le (by rw [etk]; exact Nat.le_refl _)]
    refine call_v rfl (fun W' _ => refword_x ((t.drop (j + 1)).take (t.length - (j + 1))) (by rw [← hd, hd2, List.length_drop]; omega) W') (fun W5 v W6 l5 l6 hv => ?_)
    rw [← hd, hd2] at hv
    obtain ⟨b, hb2, rfl⟩ : ∃ b, wordS (t.drop (j + 1)) = b ∧ v = .bool b := ⟨_, rfl, hv⟩
    rw [hb2] at e0
    cases b with
    | false => exact ret_plain rfl fun _ _ => no e0
    | true =>
    have l06 := l04.trans (l5.trans l6)
    obtain ⟨a, rfl, hx, hr1⟩ := tok_at h l06 (i := i) (by omega)
    refine ⟨⟨by omega, by omega⟩, a, rfl, strV (txD l i), hr1.o, rfl, _, wj.symm, ⟨by omega, by show ((j + 1 : Nat) : Int) ≤ t.length; omega, Int.le_refl _⟩, rfl, _, w4.symm, ?_⟩
    refine ret_plain rfl fun _ _ => ?_
    rw [scVD, e0]
    show Value.tuple ⟨[.agg ⟨[strV (txD l i), strV rf.space, strV rf.id, strV ((t.drop (j + 1)).take (t.length - (j + 1)))]⟩, .int .i64 ((i + 4 : Nat) : Int)]⟩ = _
    rw [← hd, hd2]; (first | done | rfl)
end Go.Proofs.Ytcgbcbdgjhnlaaa

namespace Go.Proofs.Ytcgbcbdgjhnlaaa
open Go.RowKit

def CfA (W : PW) (v : Value) : Option ConfS → Prop
  | some x => ∃ cells, v = .tuple ⟨[.agg ⟨cells⟩, .bool true]⟩ ∧ ConfR W x cells
  | none => v = .tuple ⟨[.agg ⟨[.slice none 0 0, .slice none 0 0]⟩, .bool false]⟩
structure DC where
  sp : List SpaceS
  sc : List ScopeS
  css : List (List Value)
  i : Nat
  sA : Option Addr
  sn : Nat
  kA : Option Addr
  kn : Nat
set_option maxHeartbeats 4000000 in
theorem confd_x (N : Nat) (l : List Tok) (hl : l.length ≤ 16384 ∧ ∀ x ∈ l, x.t.length ≤ 16384) (u : Value) (W : PW) (h : RP (tokC N) W u l) : CallsX Try.prog 100 ⟨[u]⟩ [] W fun v W' => CfA W' v (confD l (l.length + 1) noConf 0) := by
  have hll := hl.1
  have hmax := maxLen_big
  obtain ⟨A, c, rfl, _, _⟩ := h.form
  obtain ⟨RR, hRR⟩ : ∃ RR, confD l (l.length + 1) noConf 0 = RR := ⟨_, rfl⟩
  rw [hRR]
  refine pureNX hmix Try.func100 r100 (by kernel_rfl) [nilO 83 2, nilO 163 4] rfl [.slice A l.length c] rfl ?_
  refine ⟨DC, fun t => [(5, .v (.int .i64 t.i))], fun t => [[.v (.slice none 0 0), .v (.slice none 0 0)], [.v (.slice t.sA t.sp.length t.sn), .v (.slice t.kA t.sc.length t.kn)]],
    fun t => [⟨.slice t.sA t.sp.length t.sn, 83, 2, t.sp.length, t.css.flatten⟩, ⟨.slice t.kA t.sc.length t.kn, 163, 4, t.sc.length, (t.sc.map scopeC).flatten⟩],
    fun t W => LR SpR 2 W t.sp t.css ∧ t.i ≤ l.length ∧ t.sp.length + t.sc.length ≤ t.i ∧ ∃ m, l.length < t.i + m ∧ RR = confD l m ⟨t.sp, t.sc⟩ t.i,
    fun t => l.length - t.i, ⟨[], [], [], 0, none, 0, none, 0⟩,
    all_sl ⟨rfl, trivial⟩, rfl, ole_refl _, ⟨trivial, Nat.zero_le _, Nat.le_refl _, _, by dsimp only; omega, hRR.symm⟩, loopOK (fun _ => ⟨⟨trivial, rfl⟩, trivial⟩) (fun _ => rfl) (fun _ => rfl), ?_⟩
  rintro ⟨sp, sc, css, i, sA, sn, kA, kn⟩ W1 l1 ⟨hL, hi, hn, m, hm, hres⟩ fr
  dsimp only at hL hi hn hm hres
  obtain ⟨m', rfl⟩ : ∃ m', m = m' + 1 := ⟨m - 1, by omega⟩
  simp only [confD] at hres
  have w1 : IntKind.i64.wrap ((i : Int) + 1) = ((i + 1 : Nat) : Int) := by rw [i64_in _ ⟨by omega, by omega⟩]; omega
  refine ⟨rfl, br_split (fun hq => ?_) (fun hq => ?_)⟩
  rotate_left
  · have hq : ¬ (i : Int) < l.length := hq
    rw [if_neg (by omega)] at hres
    rw [hres]
    refine RetVC.freeze (fun _ hb => hb) (i := 0) rfl fun Wm lm hs0 => ?_
    refine RetVC.freeze (fun _ hb => hb) (i := 0) rfl fun Wn ln hs1 => ?_
    refine ret_plain rfl fun W' l => ?_
    exact ⟨_, rfl, _, _, rfl, ⟨css, hL.mono SpR.mono (lm.trans (ln.trans l)), SlRead.mono hs0 (ln.trans l)⟩, SlRead.mono hs1 l⟩
  have hq : (i : Int) < l.length := hq
  rw [if_pos (by omega)] at hres
  refine call_v rfl (fun W' lw => isd_x N l hl.1 kNamespace i _ W' (h.mono (l1.trans lw))) (fun W3 v W4 l3 l4 hv => ?_)
  obtain ⟨b, hb, rfl⟩ : ∃ b, isD l i kNamespace = b ∧ v = .bool b := ⟨_, rfl, hv⟩
  rw [hb] at hres
  have l04 := l1.trans (l3.trans l4)
  have l14 := l3.trans l4
  cases b with
  | true =>
    rw [if_pos rfl] at hres
    refine ⟨rfl, _, w1.symm, ?_⟩
    refine call_v rfl (fun W' lw => spaced_x N l hl (i + 1) (by omega) _ W' (h.mono (l04.trans lw))) (fun Wa v Wb la lb hv => ?_)
    cases hsd : spaceD l (i + 1) with
    | none =>
      rw [hsd] at hres hv
      obtain ⟨n, tA, tn, tc, hv⟩ := hv
      obtain ⟨e, he, rfl⟩ : ∃ e : Int, e = -1 ∧ v = .tuple ⟨[.agg ⟨[strV n, .slice tA tn tc]⟩, .int .i64 e]⟩ := ⟨_, rfl, hv⟩
      dsimp only at hres
      refine ⟨_, rfl, _, rfl, rfl, .inl fun bd Wd ld hrd => ⟨0, _, [strV n, .slice tA tn tc], rfl, rfl, rfl, rfl, rfl, ?_, fun _ => ⟨_, rfl, hrd.o⟩, by show sp.length + 1 ≤ maxLen; omega, by show (sp.length + 1) * 40 ≤ 140737488355328; omega, rfl, @fun Ae ce _ => ?_⟩⟩
      · intro u hu
        simp only [List.mem_cons, List.not_mem_nil, or_false] at hu
        rcases hu with rfl | rfl <;> rfl
      refine ⟨rfl, ?_⟩
      apply br_split
      · intro _
        refine ret_plain rfl fun W' _ => ?_
        rw [hres]; (first | done | rfl)
      · intro hneg
        have hneg : ¬ e < 0 := hneg
        omega
    | some p =>
      obtain ⟨s, k⟩ := p
      rw [hsd] at hres hv
      have hk := spaceD_le hsd
      obtain ⟨cells, hv, rv, rfl, hR⟩ := hv
      obtain ⟨a1, c1, rfl, _, _⟩ := hR.form
      obtain ⟨e, he, rfl⟩ : ∃ e : Int, e = k ∧ v = .tuple ⟨[.agg ⟨[strV s.name, .slice a1 s.rels.length c1]⟩, .int .i64 e]⟩ := ⟨_, rfl, hv⟩
      dsimp only at hres
      refine ⟨_, rfl, _, rfl, rfl, .inl fun bd Wd ld hrd => ⟨0, _, [strV s.name, .slice a1 s.rels.length c1], rfl, rfl, rfl, rfl, rfl, ?_, fun _ => ⟨_, rfl, hrd.o⟩, by show sp.length + 1 ≤ maxLen; omega, by show (sp.length + 1) * 40 ≤ 140737488355328; omega, rfl, @fun Ae ce _ => ?_⟩⟩
      · intro u hu
        simp only [List.mem_cons, List.not_mem_nil, or_false] at hu
        rcases hu with rfl | rfl <;> rfl
      refine ⟨rfl, ?_⟩
      apply br_split
      · intro hneg
        have hneg : e < 0 := hneg
        omega
      intro _
      refine ⟨⟨sp ++ [s], sc, css ++ [[strV s.name, .slice a1 s.rels.length c1]], k, Ae, ce, kA, kn⟩, all_sl ⟨congrArg (fun z => GV.v (.int .i64 z)) he, trivial⟩, ?_, ole_eq ?_, ⟨?_, hk.2, ?_, m', by dsimp only; omega, hres⟩, by dsimp only; omega⟩
      · dsimp only; rw [List.length_append]; (first | done | rfl)
      · dsimp only; rw [List.length_append, List.flatten_append]; simp only [List.flatten_cons, List.flatten_nil, List.append_nil]; (first | done | rfl)
      · exact LR.snoc (R := SpR) rfl (⟨_, rfl, hR.mono RelR.mono ld⟩ : SpR Wd _ _) (hL.mono SpR.mono (l14.trans (la.trans (lb.trans ld))))
      · simp only [List.length_append, List.length_singleton]; omega
  | false =>
  rw [if_neg Bool.false_ne_true] at hres
  refine call_v rfl (fun W' lw => isd_x N l hl.1 kScope i _ W' (h.mono (l04.trans lw))) (fun W5 v W6 l5 l6 hv => ?_)
  obtain ⟨b, hb2, rfl⟩ : ∃ b, isD l i kScope = b ∧ v = .bool b := ⟨_, rfl, hv⟩
  rw [hb2] at hres
  have l06 := l04.trans (l5.trans l6)
  have l16 := l14.trans (l5.trans l6)
  cases b with
  | true =>
    rw [if_pos rfl] at hres
    refine ⟨rfl, _, w1.symm, ?_⟩
    refine call_v rfl (fun W' lw => scoped_x N l hl (i + 1) (by omega) _ W' (h.mono (l06.trans lw))) (fun Wa v Wb la lb hv => ?_)
    obtain ⟨s, hs, hv⟩ : ∃ s, scVD l (i + 1) = s ∧ v = .tuple ⟨[.agg ⟨scopeC s⟩, .int .i64 (endI (scopeD l (i + 1)))]⟩ := ⟨_, rfl, hv⟩
    obtain ⟨e, he, rfl⟩ : ∃ e, endI (scopeD l (i + 1)) = e ∧ v = .tuple ⟨[.agg ⟨scopeC s⟩, .int .i64 e]⟩ := ⟨_, rfl, hv⟩
    refine ⟨_, rfl, _, rfl, rfl, .inl fun bd Wd ld hrd => ⟨1, _, scopeC s, rfl, rfl, rfl, rfl, rfl, scopeC_one _, fun _ => ⟨_, rfl, hrd.o⟩, by show sc.length + 1 ≤ maxLen; omega, by show (sc.length + 1) * 64 ≤ 140737488355328; omega, rfl, @fun Ae ce _ => ?_⟩⟩
    refine ⟨rfl, ?_⟩
    apply br_split
    · intro hneg
      have hn := endI_neg (he ▸ hneg)
      rw [hn] at hres
      refine ret_plain rfl fun W' _ => ?_
      rw [hres]; (first | done | rfl)
    intro hneg
    obtain ⟨s', k, hx, rfl⟩ := endI_pos (he ▸ hneg) he
    have hk := scopeD_le hx
    rw [scVD, hx] at hs
    obtain rfl : s' = s := hs
    rw [hx] at hres
    dsimp only at hres
    refine ⟨⟨sp, sc ++ [s'], css, k, sA, sn, Ae, ce⟩, all_sl ⟨rfl, trivial⟩, ?_, ole_eq ?_, ⟨hL.mono SpR.mono (l16.trans (la.trans (lb.trans ld))), hk.2, ?_, m', by dsimp only; omega, hres⟩, by dsimp only; omega⟩
    · dsimp only; rw [List.length_append]; (first | done | rfl)
    · dsimp only; rw [List.length_append, flat_snoc]; (first | done | rfl)
    · simp only [List.length_append, List.length_singleton]; omega
  | false =>
    rw [if_neg Bool.false_ne_true] at hres
    refine ⟨rfl, ret_plain rfl fun W' _ => ?_⟩
    rw [hres]; (first | done | rfl)
end Go.Proofs.Ytcgbcbdgjhnlaaa

namespace Go.Proofs.Ytcgbcbdgjhnlaaa
open Go.RowKit

def tA : Option (Nat × Nat) → Int
  | some (a, _) => a
  | none => -1
def tD : Option (Nat × Nat) → Int
  | some (_, d) => d
  | none => 0
theorem treeD_zero (l : List NodeS) (f : Nat) : treeD l f 0 = none := by cases f <;> rfl
theorem treeD_le (l : List NodeS) : ∀ (f e a d : Nat), treeD l f e = some (a, d) → a < e ∧ e ≤ l.length ∧ 1 ≤ d ∧ d + a ≤ e
  | 0, e, a, d, h => by cases h
  | f + 1, 0, a, d, h => by cases h
  | f + 1, e + 1, a, d, h => by
    simp only [treeD] at h
    split at h
    · cases h
    · rename_i n hn
      have hl := (List.getElem?_eq_some_iff.1 hn).1
      split at h
      · split at h
        · cases h
        · rename_i b x hb
          have h1 := treeD_le l f _ _ _ hb
          split at h
          · cases h
          · rename_i a' y ha
            have h2 := treeD_le l f _ _ _ ha
            split at h
            · simp only [Option.some.injEq, Prod.mk.injEq] at h
              obtain ⟨rfl, rfl⟩ := h
              split <;> omega
            · cases h
      · split at h
        · simp only [Option.some.injEq, Prod.mk.injEq] at h
          omega
        · cases h
theorem tA_neg {o : Option (Nat × Nat)} (h : tA o < 0) : o = none := by
  cases o with
  | none => rfl
  | some p => exact absurd h (by show ¬ (p.1 : Int) < 0; omega)
theorem tA_pos {o : Option (Nat × Nat)} {e d : Int} (h : ¬ tA o < 0) (he : tA o = e) (hd : tD o = d) : ∃ x y : Nat, o = some (x, y) ∧ e = x ∧ d = y := by
  cases o with
  | none => exact absurd (by show (-1 : Int) < 0; decide) h
  | some p => exact ⟨p.1, p.2, rfl, he.symm, hd.symm⟩
def TreeC (l : List NodeS) (f : Nat) : Prop := ∀ (e : Nat) (u : Value) (W : PW), e ≤ f → e ≤ l.length → RP nodeC W u l → CallsX Try.prog 170 ⟨[u, .int .i64 ((e : Int) - 1)]⟩ [] W fun v _ => v = .tuple ⟨[.int .i64 (tA (treeD l f e)), .int .i64 (tD (treeD l f e))]⟩
set_option maxHeartbeats 4000000 in
theorem tree_x {l : List NodeS} (hl : l.length ≤ 100000) (hok : ∀ n ∈ l, n.small) : ∀ f : Nat, TreeC l f := by
  have zero : ∀ f, ∀ (u : Value) (W : PW), RP nodeC W u l → CallsX Try.prog 170 ⟨[u, .int .i64 (((0 : Nat) : Int) - 1)]⟩ [] W fun v _ => v = .tuple ⟨[.int .i64 (tA (treeD l f 0)), .int .i64 (tD (treeD l f 0))]⟩ := by
    intro f u W h
    rw [treeD_zero]
    obtain ⟨e, he, he'⟩ : ∃ e : Int, ((0 : Nat) : Int) - 1 = e ∧ e = -1 := ⟨_, rfl, rfl⟩
    rw [he]
    refine pureX hmix Try.func170 r170 (by kernel_rfl) [u, .int .i64 e] rfl ?_
    refine ⟨rfl, br_split (fun _ => ?_) (fun hneg => ?_)⟩
    · exact ret_plain rfl fun _ _ => rfl
    · have hneg : ¬ e < 0 := hneg
      omega
  intro f
  induction f with
  | zero =>
    intro e u W he _ h
    obtain rfl : e = 0 := by omega
    exact zero 0 u W h
  | succ f ih =>
    intro e u W he hel h
    cases e with
    | zero => exact zero _ u W h
    | succ e =>
    have h0 := h
    obtain ⟨A, c, rfl, _, _⟩ := h.form
    have ee : (((e + 1 : Nat) : Int) - 1) = (e : Int) := by omega
    rw [ee]
    have hlt : e < l.length := by omega
    obtain ⟨n, hn⟩ : ∃ n, l[e]? = some n := ⟨_, List.getElem?_eq_getElem hlt⟩
    obtain ⟨sm1, sm2⟩ := hok n (List.mem_of_getElem? hn)
    obtain ⟨RR, hRR⟩ : ∃ RR, treeD l (f + 1) (e + 1) = RR := ⟨_, rfl⟩
    rw [hRR]
    have hdef : RR = if isOp n then
        match treeD l f e with
        | none => none
        | some (b, x) => match treeD l f b with
          | none => none
          | some (a, y) => if n.a = (b : Int) - 1 ∧ n.b = (e : Int) - 1 ∧ n.rel = [] ∧ n.thn = [] then some (a, (if x < y then y else x) + 1) else none
      else if leafN n then some (e, 1) else none := by rw [← hRR]; simp only [treeD, hn]; (first | done | rfl)
    refine pureX hmix Try.func170 r170 (by kernel_rfl) [.slice A l.length c, .int .i64 e] rfl ?_
    refine vc_assoc (vc_assoc (vc_cut (fun f' S' => ∃ W1, S' = ⟨[(nodeC n).map .v], [], W1⟩ ∧ W.Le W1 ∧ AllSl f' [(0, .v (.slice A l.length c)), (1, .v (.int .i64 e)), (6, .lp 0 0)]) ?_ ?_))
    · obtain ⟨pc, rfl, x, hx, _, _, hrd⟩ := h.at (sz := 5) (fun _ => rfl) (PW.Le.refl _) (j := e) ⟨by omega, by omega⟩
      have hx : l[e]? = some x := hx
      obtain rfl : x = n := by rw [hx] at hn; exact Option.some.inj hn
      exact ⟨rfl, ⟨by omega, by omega⟩, pc, rfl, nodeC x, rfl, hrd.o, W, rfl, PW.Le.refl _, ⟨rfl, rfl, rfl, trivial⟩⟩
    rintro f' S' ⟨W1, rfl, l1, hfr⟩
    obtain ⟨k, r, t, na, nb⟩ := n
    dsimp only at sm1 sm2 hdef
    refine vc_rassoc (vc_cut (fun f' S' => ∃ W1, S' = ⟨[(nodeC ⟨k, r, t, na, nb⟩).map .v], [], W1⟩ ∧ W.Le W1 ∧ AllSl f' [(0, .v (.slice A l.length c)), (1, .v (.int .i64 e)), (6, .lp 0 0), (30, .v (.bool (isOp ⟨k, r, t, na, nb⟩)))]) ?_ ?_)
    · refine vc_at _ hfr ?_
      refine ⟨rfl, ?_⟩
      apply br_split
      · intro h4
        have h4 : (k : Int) = 4 := h4
        have e : isOp ⟨k, r, t, na, nb⟩ = true := by unfold isOp; rw [decide_eq_true (show k = 4 by omega)]; (first | done | rfl)
        rw [e]
        exact ⟨W1, rfl, l1, ⟨rfl, rfl, rfl, rfl, trivial⟩⟩
      intro h4
      have h4 : ¬ (k : Int) = 4 := h4
      refine ⟨rfl, ?_⟩
      apply br_split
      · intro h5
        have h5 : (k : Int) = 5 := h5
        have e : isOp ⟨k, r, t, na, nb⟩ = true := by unfold isOp; rw [decide_eq_true (show k = 5 by omega)]; simp
        rw [e]
        exact ⟨W1, rfl, l1, ⟨rfl, rfl, rfl, rfl, trivial⟩⟩
      intro h5
      have h5 : ¬ (k : Int) = 5 := h5
      have e : isOp ⟨k, r, t, na, nb⟩ = decide ((k : Int) = 6) := by
        unfold isOp
        rw [decide_eq_false (show ¬ k = 4 by omega), decide_eq_false (show ¬ k = 5 by omega), Bool.or_self, Bool.false_or]
      rw [e]
      exact ⟨rfl, W1, rfl, l1, ⟨rfl, rfl, rfl, rfl, trivial⟩⟩
    rintro f' S' ⟨W1, rfl, l1, hfr⟩
    refine vc_at _ hfr ?_
    obtain ⟨op, hop⟩ : ∃ op, isOp ⟨k, r, t, na, nb⟩ = op := ⟨_, rfl⟩
    rw [hop] at hdef ⊢
    cases op with
    | true =>
      rw [if_pos rfl] at hdef
      refine ⟨rfl, _, (i64_in ((e : Int) - 1) ⟨by omega, by omega⟩).symm, ?_⟩
      refine call_v rfl (fun W' lw => ih e _ W' (by omega) (by omega) (h0.mono (l1.trans lw))) (fun W3 v W4 l3 l4 hv => ?_)
      obtain ⟨o, ho⟩ : ∃ o, treeD l f e = o := ⟨_, rfl⟩
      rw [ho] at hv hdef
      obtain ⟨b', hb', hv⟩ : ∃ b', tA o = b' ∧ v = .tuple ⟨[.int .i64 b', .int .i64 (tD o)]⟩ := ⟨_, rfl, hv⟩
      obtain ⟨x', hx', rfl⟩ : ∃ x', tD o = x' ∧ v = .tuple ⟨[.int .i64 b', .int .i64 x']⟩ := ⟨_, rfl, hv⟩
      refine ⟨_, rfl, _, rfl, rfl, ?_⟩
      apply br_split
      · intro hneg
        have := tA_neg (hb' ▸ hneg)
        rw [this] at hdef
        refine ret_plain rfl fun _ _ => ?_
        rw [hdef]; (first | done | rfl)
      intro hneg
      obtain ⟨b, x, rfl, rfl, rfl⟩ := tA_pos (hb' ▸ hneg) hb' hx'
      obtain ⟨q1, q2, q3, q4⟩ := treeD_le l f _ _ _ ho
      dsimp only at hdef
      have l14 := l1.trans (l3.trans l4)
      refine ⟨rfl, _, (i64_in ((b : Int) - 1) ⟨by omega, by omega⟩).symm, ?_⟩
      refine call_v rfl (fun W' lw => ih b _ W' (by omega) (by omega) (h0.mono (l14.trans lw))) (fun W5 v W6 l5 l6 hv => ?_)
      obtain ⟨o2, ho2⟩ : ∃ o, treeD l f b = o := ⟨_, rfl⟩
      rw [ho2] at hv hdef
      obtain ⟨a', ha', hv⟩ : ∃ b', tA o2 = b' ∧ v = .tuple ⟨[.int .i64 b', .int .i64 (tD o2)]⟩ := ⟨_, rfl, hv⟩
      obtain ⟨y', hy', rfl⟩ : ∃ x', tD o2 = x' ∧ v = .tuple ⟨[.int .i64 a', .int .i64 x']⟩ := ⟨_, rfl, hv⟩
      refine ⟨_, rfl, _, rfl, rfl, ?_⟩
      apply br_split
      · intro hneg
        have := tA_neg (ha' ▸ hneg)
        rw [this] at hdef
        refine ret_plain rfl fun _ _ => ?_
        rw [hdef]; (first | done | rfl)
      intro hneg
      obtain ⟨a, y, rfl, rfl, rfl⟩ := tA_pos (ha' ▸ hneg) ha' hy'
      obtain ⟨p1, p2, p3, p4⟩ := treeD_le l f _ _ _ ho2
      dsimp only at hdef
      have no : ¬ (na = (b : Int) - 1 ∧ nb = (e : Int) - 1 ∧ r = [] ∧ t = []) → Value.tuple ⟨[.int .i64 (-1), .int .i64 0]⟩ = .tuple ⟨[.int .i64 (tA RR), .int .i64 (tD RR)]⟩ := fun h => by rw [if_neg h] at hdef; rw [hdef]; (first | done | rfl)
      refine ⟨rfl, _, (i64_in ((b : Int) - 1) ⟨by omega, by omega⟩).symm, rfl, ?_⟩
      apply br_nsplit
      · intro hc
        have hc : ¬ na = (b : Int) - 1 := hc
        exact ret_plain rfl fun _ _ => no fun h => hc h.1
      intro hc1
      have hc1 : na = (b : Int) - 1 := hc1
      refine ⟨rfl, _, (i64_in ((e : Int) - 1) ⟨by omega, by omega⟩).symm, rfl, ?_⟩
      apply br_nsplit
      · intro hc
        have hc : ¬ nb = (e : Int) - 1 := hc
        exact ret_plain rfl fun _ _ => no fun h => hc h.2.1
      intro hc2
      have hc2 : nb = (e : Int) - 1 := hc2
      apply br_nsplit
      · intro hc
        have hc : ¬ r = [] := hc
        exact ret_plain rfl fun _ _ => no fun h => hc h.2.2.1
      intro hc3
      have hc3 : r = [] := hc3
      apply br_nsplit
      · intro hc
        have hc : ¬ t = [] := hc
        exact ret_plain rfl fun _ _ => no fun h => hc h.2.2.2
      intro hc4
      have hc4 : t = [] := hc4
      rw [if_pos ⟨hc1, hc2, hc3, hc4⟩] at hdef
      refine ⟨rfl, ?_⟩
      apply br_split
      · intro hxy
        have hxy : (x : Int) < y := hxy
        have wy : IntKind.i64.wrap ((y : Int) + 1) = ((y + 1 : Nat) : Int) := by rw [i64_in _ ⟨by omega, by omega⟩]; omega
        refine ⟨rfl, _, wy.symm, ret_plain rfl fun _ _ => ?_⟩
        rw [hdef, if_pos (show x < y by omega)]; (first | done | rfl)
      · intro hxy
        have hxy : ¬ (x : Int) < y := hxy
        have wy : IntKind.i64.wrap ((x : Int) + 1) = ((x + 1 : Nat) : Int) := by rw [i64_in _ ⟨by omega, by omega⟩]; omega
        refine ⟨rfl, _, wy.symm, ret_plain rfl fun _ _ => ?_⟩
        rw [hdef, if_neg (show ¬ x < y by omega)]; (first | done | rfl)
    | false =>
      rw [if_neg Bool.false_ne_true] at hdef
      have no : leafN ⟨k, r, t, na, nb⟩ = false → Value.tuple ⟨[.int .i64 (-1), .int .i64 0]⟩ = .tuple ⟨[.int .i64 (tA RR), .int .i64 (tD RR)]⟩ := fun h => by rw [h, if_neg Bool.false_ne_true] at hdef; rw [hdef]; (first | done | rfl)
      have yes : leafN ⟨k, r, t, na, nb⟩ = true → Value.tuple ⟨[.int .i64 e, .int .i64 1]⟩ = .tuple ⟨[.int .i64 (tA RR), .int .i64 (tD RR)]⟩ := fun h => by rw [h, if_pos rfl] at hdef; rw [hdef]; (first | done | rfl)
      refine vc_cut (fun f' S' => ∃ W1, S' = ⟨[(nodeC ⟨k, r, t, na, nb⟩).map .v], [], W1⟩ ∧ W.Le W1 ∧ AllSl f' [(0, .v (.slice A l.length c)), (1, .v (.int .i64 e)), (6, .lp 0 0)]) ?_ ?_
      · exact ⟨W1, rfl, l1, ⟨rfl, rfl, rfl, trivial⟩⟩
      rintro f' S' ⟨W1, rfl, l1, hfr⟩
      refine vc_cut (fun f' S' => ∃ W1, S' = ⟨[(nodeC ⟨k, r, t, na, nb⟩).map .v], [], W1⟩ ∧ W.Le W1 ∧ AllSl f' [(0, .v (.slice A l.length c)), (1, .v (.int .i64 e)), (6, .lp 0 0), (11, .v (.bool (decide (na = 0) && decide (nb = 0))))]) ?_ ?_
      · refine vc_at _ hfr ?_
        refine ⟨rfl, ?_⟩
        apply br_split
        · intro hc
          have hc : na = 0 := hc
          refine ⟨rfl, W1, rfl, l1, ⟨rfl, rfl, rfl, ?_, trivial⟩⟩
          show GV.v (.bool (decide (nb = 0))) = _
          rw [decide_eq_true hc, Bool.true_and]
        · intro hc
          have hc : ¬ na = 0 := hc
          refine ⟨W1, rfl, l1, ⟨rfl, rfl, rfl, ?_, trivial⟩⟩
          show GV.v (.bool false) = _
          rw [decide_eq_false hc, Bool.false_and]
      rintro f' S' ⟨W1, rfl, l1, hfr⟩
      refine vc_cut (fun f' S' => ∃ W1, S' = ⟨[(nodeC ⟨k, r, t, na, nb⟩).map .v], [], W1⟩ ∧ W.Le W1 ∧ AllSl f' [(0, .v (.slice A l.length c)), (1, .v (.int .i64 e)), (6, .lp 0 0), (11, .v (.bool (leafN ⟨k, r, t, na, nb⟩)))]) ?_ ?_
      · refine vc_at _ hfr ?_
        have hleaf : leafN ⟨k, r, t, na, nb⟩ = ((decide (na = 0) && decide (nb = 0)) && (if k = 1 then decide (r = []) && decide (t = []) else if k = 2 then wordS r && decide (t = []) else if k = 3 then wordS r && wordS t else false)) := rfl
        obtain ⟨z, hz⟩ : ∃ z, (decide (na = 0) && decide (nb = 0)) = z := ⟨_, rfl⟩
        rw [hz] at hleaf ⊢
        refine ⟨rfl, ?_⟩
        apply br_split
        · intro hk
          have hk : (k : Int) = 1 := hk
          rw [if_pos (show k = 1 by omega)] at hleaf
          cases z with
          | false => exact ⟨W1, rfl, l1, ⟨rfl, rfl, rfl, by rw [hleaf]; (first | done | rfl), trivial⟩⟩
          | true =>
            apply br_split
            · intro hr
              have hr : r = [] := hr
              refine ⟨W1, rfl, l1, ⟨rfl, rfl, rfl, ?_, trivial⟩⟩
              rw [hleaf, decide_eq_true hr]; (first | done | rfl)
            · intro hr
              have hr : ¬ r = [] := hr
              refine ⟨W1, rfl, l1, ⟨rfl, rfl, rfl, ?_, trivial⟩⟩
              rw [hleaf, decide_eq_false hr]; (first | done | rfl)
        intro hk1
        have hk1 : ¬ (k : Int) = 1 := hk1
        rw [if_neg (show ¬ k = 1 by omega)] at hleaf
        refine ⟨rfl, ?_⟩
        apply br_split
        · intro hk
          have hk : (k : Int) = 2 := hk
          rw [if_pos (show k = 2 by omega)] at hleaf
          cases z with
          | false => exact ⟨W1, rfl, l1, ⟨rfl, rfl, rfl, by rw [hleaf]; (first | done | rfl), trivial⟩⟩
          | true =>
            refine call_v rfl (fun W' _ => refword_xl r sm1 W') (fun W3 v W4 l3 l4 hv => ?_)
            obtain ⟨w, hw, rfl⟩ : ∃ w, wordS r = w ∧ v = .bool w := ⟨_, rfl, hv⟩
            rw [hw] at hleaf
            cases w with
            | false => exact ⟨W4, rfl, l1.trans (l3.trans l4), ⟨rfl, rfl, rfl, by rw [hleaf]; (first | done | rfl), trivial⟩⟩
            | true => exact ⟨W4, rfl, l1.trans (l3.trans l4), ⟨rfl, rfl, rfl, by rw [hleaf]; (first | done | rfl), trivial⟩⟩
        intro hk2
        have hk2 : ¬ (k : Int) = 2 := hk2
        rw [if_neg (show ¬ k = 2 by omega)] at hleaf
        refine ⟨rfl, ?_⟩
        apply br_split
        · intro hk
          have hk : (k : Int) = 3 := hk
          rw [if_pos (show k = 3 by omega)] at hleaf
          cases z with
          | false => exact ⟨W1, rfl, l1, ⟨rfl, rfl, rfl, by rw [hleaf]; (first | done | rfl), trivial⟩⟩
          | true =>
            refine call_v rfl (fun W' _ => refword_xl r sm1 W') (fun W3 v W4 l3 l4 hv => ?_)
            obtain ⟨w, hw, rfl⟩ : ∃ w, wordS r = w ∧ v = .bool w := ⟨_, rfl, hv⟩
            rw [hw] at hleaf
            cases w with
            | false => exact ⟨W4, rfl, l1.trans (l3.trans l4), ⟨rfl, rfl, rfl, by rw [hleaf]; (first | done | rfl), trivial⟩⟩
            | true =>
              refine call_v rfl (fun W' _ => refword_xl t sm2 W') (fun W5 v W6 l5 l6 hv => ?_)
              subst hv
              exact ⟨W6, rfl, l1.trans (l3.trans (l4.trans (l5.trans l6))), ⟨rfl, rfl, rfl, by rw [hleaf]; (first | done | rfl), trivial⟩⟩
        · intro hk3
          have hk3 : ¬ (k : Int) = 3 := hk3
          rw [if_neg (show ¬ k = 3 by omega)] at hleaf
          refine ⟨W1, rfl, l1, ⟨rfl, rfl, rfl, ?_, trivial⟩⟩
          rw [hleaf, Bool.and_false]; (first | done | rfl)
      rintro f' S' ⟨W1, rfl, l1, hfr⟩
      refine vc_at _ hfr ?_
      obtain ⟨z, hz⟩ : ∃ z, leafN ⟨k, r, t, na, nb⟩ = z := ⟨_, rfl⟩
      rw [hz]
      cases z with
      | false => exact ret_plain rfl fun _ _ => no hz
      | true => exact ret_plain rfl fun _ _ => yes hz
end Go.Proofs.Ytcgbcbdgjhnlaaa

namespace Go.Proofs.Ytcgbcbdgjhnlaaa

def TK (l : List Tok) : Prop := ∀ x ∈ l, ¬ x.k = 0
/-- The program's parser at a place. -/
def atP (l : List Tok) (i : Nat) : PS := ⟨l.drop i, false⟩
theorem drop_some {l : List Tok} {i : Nat} {x : Tok} (h : l[i]? = some x) : l.drop i = x :: l.drop (i + 1) := by
  have hl := (List.getElem?_eq_some_iff.1 h).1
  rw [List.drop_eq_getElem_cons hl]
  rw [List.getElem?_eq_getElem hl] at h
  rw [Option.some.inj h]
theorem drop_none {l : List Tok} {i : Nat} (h : l[i]? = none) : l.drop i = [] := List.drop_eq_nil_of_le (List.getElem?_eq_none_iff.1 h)
theorem take_is {l : List Tok} (hk : TK l) (s : List UInt8) (i : Nat) : takeB s (l.drop i) = isD l i s := by
  unfold isD
  cases h : l[i]? with
  | none => rw [drop_none h]; (first | done | rfl)
  | some x =>
    rw [drop_some h]
    show isT s x = _
    unfold isT
    rw [decide_eq_false (hk x (List.mem_of_getElem? h))]; (first | done | rfl)
theorem wd_is (l : List Tok) (i : Nat) : wdB (atP l i) = wordD l i := by
  unfold wordD wdB atP
  cases h : l[i]? with
  | none => rw [drop_none h]
  | some x => rw [drop_some h]
theorem wdV_is {l : List Tok} {i : Nat} (hw : wordD l i = true) : wdV (atP l i) = txD l i := by
  unfold wordD at hw
  unfold wdV txD atP
  cases h : l[i]? with
  | none => rw [h] at hw; cases hw
  | some x =>
    rw [h] at hw
    have hw : wordT x = true := hw
    rw [drop_some h]
    simp only [hw, if_true]
theorem tail_is (l : List Tok) (i : Nat) : (atP l i).tail = atP l (i + 1) := by
  unfold PS.tail atP
  rw [List.tail_drop]
theorem must_is {l : List Tok} (hk : TK l) (s : List UInt8) (i : Nat) : mustS s (atP l i) = if isD l i s then atP l (i + 1) else PS.bad := by
  unfold mustS
  rw [show takeB s (atP l i).l = isD l i s from take_is hk s i, tail_is]
theorem wdS_is (l : List Tok) (i : Nat) : wdS (atP l i) = if wordD l i then atP l (i + 1) else PS.bad := by
  unfold wdS
  rw [wd_is, tail_is]
theorem at_len (l : List Tok) (i : Nat) : (atP l i).l.length = l.length - i := by simp [atP]
theorem isD_ne {l : List Tok} {i : Nat} {s t : List UInt8} (h : isD l i s = true) (hne : s ≠ t) : isD l i t = false := by
  unfold isD at h ⊢
  cases hx : l[i]? with
  | none => rfl
  | some x =>
    rw [hx] at h
    have h : (!decide (x.k = 2) && decide (x.t = s)) = true := h
    simp only [Bool.and_eq_true, decide_eq_true_eq] at h
    show (!decide (x.k = 2) && decide (x.t = t)) = false
    rw [h.2, decide_eq_false hne, Bool.and_false]
theorem isD_tx {l : List Tok} {i : Nat} {s : List UInt8} (h : isD l i s = true) : txD l i = s := by
  unfold isD at h
  unfold txD
  cases hx : l[i]? with
  | none => rw [hx] at h; cases h
  | some x =>
    rw [hx] at h
    have h : (!decide (x.k = 2) && decide (x.t = s)) = true := h
    simp only [Bool.and_eq_true, decide_eq_true_eq] at h
    exact h.2
/-- The document's answer, the program's. -/
def Rl (l : List Tok) {α : Type} : Option (α × Nat) → α × PS → Prop
  | some (x, j), q => q = (x, atP l j)
  | none, q => q.2 = PS.bad
theorem rank_two {l : List Tok} {j : Nat} (h : 2 ≤ rankD l j) : isD l j [38] = true ∧ oprD (txD l j) = 5 := by
  unfold rankD at h
  split at h
  · omega
  · split at h
    · rename_i h2
      refine ⟨h2, ?_⟩
      rw [isD_tx h2]; (first | done | rfl)
    · omega
theorem rank_less {l : List Tok} {j : Nat} (h : rankD l j < 2) : isD l j [38] = false := by
  unfold rankD at h
  split at h
  · rename_i h1
    simp only [Bool.or_eq_true] at h1
    exact h1.elim (fun h => isD_ne h (by decide)) (fun h => isD_ne h (by decide))
  · split at h
    · omega
    · rename_i h2; simpa using h2
theorem op_is {l : List Tok} (hk : TK l) (j : Nat) : (rankD l j = 1 → opV (atP l j) = oprD (txD l j) ∧ ¬ opV (atP l j) = 0 ∧ opS (atP l j) = atP l (j + 1)) ∧ (¬ rankD l j = 1 → opV (atP l j) = 0 ∧ opS (atP l j) = atP l j) := by
  have e1 : takeB [124] (atP l j).l = isD l j [124] := take_is hk _ _
  have e2 : takeB [45] (atP l j).l = isD l j [45] := take_is hk _ _
  unfold rankD opV opS tkS
  rw [e1, e2, tail_is]
  cases h1 : isD l j [124] with
  | true =>
    have := isD_tx h1
    simp [this, oprD]
  | false =>
    cases h2 : isD l j [45] with
    | true =>
      have := isD_tx h2
      simp [this, oprD]
    | false =>
      cases h3 : isD l j [38] <;> simp
theorem fac_bad (ex : List NodeS → PS → NP) (ns : List NodeS) : (facN ex ns PS.bad).2 = PS.bad := rfl
theorem termL_bad (fac : List NodeS → PS → NP) (m : Nat) (ns : List NodeS) : (termL fac m ns PS.bad).2 = PS.bad := by cases m <;> rfl
theorem exprL_bad (te : List NodeS → PS → NP) (m : Nat) (ns : List NodeS) : (exprL te m ns PS.bad).2 = PS.bad := by cases m <;> rfl
theorem termL_st {fac : List NodeS → PS → NP} {l : List NodeS} {p : PS} (h : takeB [38] p.l = false) : ∀ m, termL fac m l p = (l, p)
  | 0 => rfl
  | m + 1 => by simp only [termL, h, Bool.and_false]; (first | done | rfl)
theorem termL_more {fac : List NodeS → PS → NP} {n : Nat} (hf : Fit fac n) : ∀ (m m' : Nat) (l : List NodeS) (p : PS), p.l.length ≤ m → p.l.length ≤ m' → p.l.length ≤ n → termL fac m l p = termL fac m' l p
  | 0, m', l, p, h, _, _ => by
    have hp : p.l = [] := List.eq_nil_of_length_eq_zero (by omega)
    rw [termL_st (by rw [hp]; (first | done | rfl)), termL_st (by rw [hp]; (first | done | rfl))]
  | m + 1, 0, l, p, _, h, _ => by
    have hp : p.l = [] := List.eq_nil_of_length_eq_zero (by omega)
    rw [termL_st (by rw [hp]; (first | done | rfl)), termL_st (by rw [hp]; (first | done | rfl))]
  | m + 1, m' + 1, l, p, h, h', hn => by
    simp only [termL]
    split
    · rename_i h1
      simp only [Bool.and_eq_true] at h1
      have := take_pos h1.2
      have := (hf l p.tail (by omega)).2.1
      exact termL_more hf m m' _ _ (by omega) (by omega) (by omega)
    · rfl
theorem exprL_st {te : List NodeS → PS → NP} {l : List NodeS} {p : PS} (h : opV p = 0) (hs : opS p = p) : ∀ m, exprL te m l p = (l, p)
  | 0 => rfl
  | m + 1 => by simp only [exprL, h, hs]; (first | done | rfl)
theorem exprL_more {te : List NodeS → PS → NP} {n : Nat} (hf : Fit te n) : ∀ (m m' : Nat) (l : List NodeS) (p : PS), p.l.length ≤ m → p.l.length ≤ m' → p.l.length ≤ n → exprL te m l p = exprL te m' l p
  | 0, m', l, p, h, _, _ => by
    have hp : p.l = [] := List.eq_nil_of_length_eq_zero (by omega)
    have e1 : opV p = 0 := by unfold opV; rw [hp]; (first | done | rfl)
    have e2 : opS p = p := by unfold opS tkS; rw [hp]; (first | done | rfl)
    rw [exprL_st e1 e2, exprL_st e1 e2]
  | m + 1, 0, l, p, _, h, _ => by
    have hp : p.l = [] := List.eq_nil_of_length_eq_zero (by omega)
    have e1 : opV p = 0 := by unfold opV; rw [hp]; (first | done | rfl)
    have e2 : opS p = p := by unfold opS tkS; rw [hp]; (first | done | rfl)
    rw [exprL_st e1 e2, exprL_st e1 e2]
  | m + 1, m' + 1, l, p, h, h', hn => by
    simp only [exprL]
    split
    · rename_i h1
      simp only [Bool.and_eq_true, Bool.not_eq_true', decide_eq_false_iff_not] at h1
      have := op_pos h1.1
      have := (hf l (opS p) (by omega)).2.1
      exact exprL_more hf m m' _ _ (by omega) (by omega) (by omega)
    · rfl
theorem loopD_end {l : List Tok} {ex : Nat → Nat → List NodeS → ND} {least : Nat} : ∀ (m : Nat) (ns ns' : List NodeS) (i j : Nat), loopD ex l least m ns i = some (ns', j) → rankD l j < least
  | 0, ns, ns', i, j, e => by cases e
  | m + 1, ns, ns', i, j, e => by
    simp only [loopD] at e
    split at e
    · split at e
      · exact loopD_end m _ _ _ _ e
      · cases e
    · simp only [Option.some.injEq, Prod.mk.injEq] at e
      obtain ⟨rfl, rfl⟩ := e
      omega
theorem exprD_end {l : List Tok} {f i least : Nat} {ns ns' : List NodeS} {j : Nat} (e : exprD l f i least ns = some (ns', j)) : rankD l j < least := by
  cases f with
  | zero => cases e
  | succ f =>
    simp only [exprD] at e
    split at e
    · exact loopD_end _ _ _ _ _ e
    · cases e
theorem head_rl {l : List Tok} (hk : TK l) {f n i : Nat} {ns : List NodeS} (hc : ∀ ns, i < l.length → Rl l (exprD l f (i + 1) 1 ns) (exprN n ns (atP l (i + 1)))) : Rl l (headD (exprD l f) l i ns) (facN (exprN n) ns (atP l i)) := by
  unfold headD facN
  rw [show takeB kThis (atP l i).l = isD l i kThis from take_is hk _ _, show takeB [40] (atP l i).l = isD l i [40] from take_is hk _ _, tail_is, wdS_is]
  cases h1 : isD l i [40] with
  | true =>
    have hlt := isD_lt h1
    have := hc ns hlt
    rw [isD_ne h1 (by decide)]
    simp only [if_true, Bool.false_eq_true, if_false]
    cases hx : exprD l f (i + 1) 1 ns with
    | none =>
      rw [hx] at this
      have this : (exprN n ns (atP l (i + 1))).2 = PS.bad := this
      show mustS [41] (exprN n ns (atP l (i + 1))).2 = PS.bad
      rw [this]; (first | done | rfl)
    | some p =>
      obtain ⟨ns', j⟩ := p
      rw [hx] at this
      have this : exprN n ns (atP l (i + 1)) = (ns', atP l j) := this
      rw [this]
      show Rl l (closeD l (some (ns', j))) (ns', mustS [41] (atP l j))
      rw [must_is hk]
      simp only [closeD]
      cases isD l j [41] <;> rfl
  | false =>
    cases h2 : isD l i kThis with
    | true => simp only [if_true, Bool.false_eq_true, if_false]; (first | done | rfl)
    | false =>
      simp only [Bool.false_eq_true, if_false]
      cases h3 : wordD l i with
      | false => simp only [Bool.false_and, Bool.false_eq_true, if_false]; (first | done | rfl)
      | true =>
        simp only [if_true, Bool.true_and]
        rw [show takeB [45, 62] (atP l (i + 1)).l = isD l (i + 1) [45, 62] from take_is hk _ _, tail_is, wdV_is h3]
        cases h4 : isD l (i + 1) [45, 62] with
        | false => simp only [Bool.false_eq_true, if_false]; (first | done | rfl)
        | true =>
          simp only [if_true]
          rw [wdS_is]
          cases h5 : wordD l (i + 2) with
          | false => simp only [Bool.false_eq_true, if_false]; (first | done | rfl)
          | true => rw [wdV_is h5]; (first | done | rfl)
/-- What the program makes of it behind a first factor. -/
def cont (n : Nat) (ns : List NodeS) (p : PS) : NP := exprL (termN (exprN n)) (termL (facN (exprN n)) p.l.length ns p).2.l.length (termL (facN (exprN n)) p.l.length ns p).1 (termL (facN (exprN n)) p.l.length ns p).2
theorem cont_stop {n : Nat} {ns : List NodeS} {p : PS} (h : takeB [38] p.l = false) : cont n ns p = exprL (termN (exprN n)) p.l.length ns p := by
  unfold cont; rw [termL_st h]
theorem cont_bad (n : Nat) (ns : List NodeS) : (cont n ns PS.bad).2 = PS.bad := by
  unfold cont; rw [termL_bad]; exact exprL_bad _ _ _
theorem expr_rl {l : List Tok} (hk : TK l) : ∀ f : Nat, ∀ i, i ≤ l.length → l.length < i + f →
    (∀ n ns, l.length ≤ i + n → Rl l (exprD l f i 3 ns) (facN (exprN n) ns (atP l i))) ∧ (∀ n ns, l.length ≤ i + n → Rl l (exprD l f i 2 ns) (termN (exprN n) ns (atP l i))) ∧ (∀ n ns, l.length < i + n → Rl l (exprD l f i 1 ns) (exprN n ns (atP l i)))
  | 0, i, hi, hf => by omega
  | f + 1, i, hi, hf => by
    have ih := expr_rl hk f
    have head : ∀ n ns, l.length ≤ i + n → Rl l (headD (exprD l f) l i ns) (facN (exprN n) ns (atP l i)) := fun n ns hn =>
      head_rl hk fun ns hlt => (ih (i + 1) (by omega) (by omega)).2.2 n ns (by omega)
    have fits := fun n => fac_fit (expr_fit n)
    have fitt := fun n => term_fit (expr_fit n)
    refine ⟨fun n ns hn => ?_, fun n ns hn => ?_, fun n ns hn => ?_⟩
    · have h := head n ns hn
      simp only [exprD]
      cases hx : headD (exprD l f) l i ns with
      | none => rw [hx] at h; exact h
      | some p =>
        obtain ⟨ns', j⟩ := p
        rw [hx] at h
        have hj := headD_fit (exprD_fit l f) hx
        dsimp only
        obtain ⟨m, hm⟩ : ∃ m, l.length + 1 - j = m + 1 := ⟨l.length - j, by omega⟩
        rw [hm]
        simp only [loopD]
        rw [if_neg]
        · exact h
        · intro h3
          have := rankD_lt (l := l) (i := j) (by omega)
          omega
    · -- terms
      have loop : ∀ (m : Nat) (ns : List NodeS) (j m' : Nat), i ≤ j → l.length < j + m → j ≤ l.length → l.length ≤ j + m' → Rl l (loopD (exprD l f) l 2 m ns j) (termL (facN (exprN n)) m' ns (atP l j)) := by
        intro m
        induction m with
        | zero => intro ns j m' _ h1 h2 _; omega
        | succ m ihm =>
          intro ns j m' hij h1 h2 h3
          simp only [loopD]
          by_cases hr : 2 ≤ rankD l j
          · rw [if_pos hr]
            obtain ⟨h38, h5⟩ := rank_two hr
            have hr2 := rankD_lt (l := l) (i := j) (by omega)
            have er : rankD l j + 1 = 3 := by omega
            rw [er, h5]
            obtain ⟨m'', rfl⟩ : ∃ m'', m' = m'' + 1 := ⟨m' - 1, by omega⟩
            have e : termL (facN (exprN n)) (m'' + 1) ns (atP l j) = termL (facN (exprN n)) m'' (joinN 5 ns (facN (exprN n) ns (atP l (j + 1))).1) (facN (exprN n) ns (atP l (j + 1))).2 := by
              simp only [termL]
              rw [show takeB [38] (atP l j).l = isD l j [38] from take_is hk _ _, h38, tail_is]; (first | done | rfl)
            rw [e]
            have h := (ih (j + 1) (by omega) (by omega)).1 n ns (by omega)
            cases hx : exprD l f (j + 1) 3 ns with
            | none =>
              rw [hx] at h
              have h : (facN (exprN n) ns (atP l (j + 1))).2 = PS.bad := h
              rw [h]; exact termL_bad _ _ _
            | some p =>
              obtain ⟨ns', j'⟩ := p
              rw [hx] at h
              have h : facN (exprN n) ns (atP l (j + 1)) = (ns', atP l j') := h
              rw [h]
              have hj := exprD_fit l f _ _ _ _ _ (by omega) hx
              exact ihm _ _ _ (by omega) (by omega) (by omega) (by omega)
          · rw [if_neg hr]
            rw [termL_st (by rw [show takeB [38] (atP l j).l = isD l j [38] from take_is hk _ _]; exact rank_less (by omega))]
            (first | done | rfl)
      have h := head n ns hn
      simp only [exprD]
      unfold termN
      cases hx : headD (exprD l f) l i ns with
      | none =>
        rw [hx] at h
        have h : (facN (exprN n) ns (atP l i)).2 = PS.bad := h
        rw [h]; exact termL_bad _ _ _
      | some p =>
        obtain ⟨ns', j⟩ := p
        rw [hx] at h
        have h : facN (exprN n) ns (atP l i) = (ns', atP l j) := h
        rw [h]
        have hj := headD_fit (exprD_fit l f) hx
        exact loop _ _ _ _ (by omega) (by omega) (by omega) (by rw [at_len]; omega)
    · -- expressions
      obtain ⟨n, rfl⟩ : ∃ n', n = n' + 1 := ⟨n - 1, by omega⟩
      have loop : ∀ (m : Nat) (ns : List NodeS) (j : Nat), i ≤ j → l.length < j + m → j ≤ l.length → Rl l (loopD (exprD l f) l 1 m ns j) (cont n ns (atP l j)) := by
        intro m
        induction m with
        | zero => intro ns j _ h1 h2; omega
        | succ m ihm =>
          intro ns j hij h1 h2
          simp only [loopD]
          have t38 : takeB [38] (atP l j).l = isD l j [38] := take_is hk _ _
          by_cases hr : 1 ≤ rankD l j
          · rw [if_pos hr]
            have hr2 := rankD_lt hr
            by_cases h2r : 2 ≤ rankD l j
            · obtain ⟨h38, h5⟩ := rank_two h2r
              have er : rankD l j + 1 = 3 := by omega
              rw [er, h5]
              have e : termL (facN (exprN n)) (atP l j).l.length ns (atP l j) = termL (facN (exprN n)) (l.length - (j + 1)) (joinN 5 ns (facN (exprN n) ns (atP l (j + 1))).1) (facN (exprN n) ns (atP l (j + 1))).2 := by
                rw [at_len, show l.length - j = (l.length - (j + 1)) + 1 by omega]
                simp only [termL]
                rw [t38, h38, tail_is]; (first | done | rfl)
              have h := (ih (j + 1) (by omega) (by omega)).1 n ns (by omega)
              cases hx : exprD l f (j + 1) 3 ns with
              | none =>
                rw [hx] at h
                have h : (facN (exprN n) ns (atP l (j + 1))).2 = PS.bad := h
                show (cont n ns (atP l j)).2 = PS.bad
                unfold cont
                rw [e, h, termL_bad]; exact exprL_bad _ _ _
              | some p =>
                obtain ⟨ns', j'⟩ := p
                rw [hx] at h
                have h : facN (exprN n) ns (atP l (j + 1)) = (ns', atP l j') := h
                have hj := exprD_fit l f _ _ _ _ _ (by omega) hx
                have e2 : cont n ns (atP l j) = cont n (joinN 5 ns ns') (atP l j') := by
                  unfold cont
                  rw [e, h]
                  dsimp only
                  rw [termL_more (fits n) (l.length - (j + 1)) (atP l j').l.length _ _ (by rw [at_len]; omega) (Nat.le_refl _) (by rw [at_len]; omega)]
                rw [e2]
                exact ihm _ _ (by omega) (by omega) (by omega)
            · have er : rankD l j = 1 := by omega
              obtain ⟨o1, o2, o3⟩ := (op_is hk j).1 er
              rw [cont_stop (by rw [t38]; exact rank_less (by omega)), er]
              have e : exprL (termN (exprN n)) (atP l j).l.length ns (atP l j) = exprL (termN (exprN n)) (l.length - (j + 1)) (joinN (oprD (txD l j)) ns (termN (exprN n) ns (atP l (j + 1))).1) (termN (exprN n) ns (atP l (j + 1))).2 := by
                rw [at_len, show l.length - j = (l.length - (j + 1)) + 1 by omega]
                simp only [exprL]
                rw [o3, decide_eq_false o2, o1]; (first | done | rfl)
              rw [e]
              have h := (ih (j + 1) (by omega) (by omega)).2.1 n ns (by omega)
              cases hx : exprD l f (j + 1) 2 ns with
              | none =>
                rw [hx] at h
                have h : (termN (exprN n) ns (atP l (j + 1))).2 = PS.bad := h
                rw [h]; exact exprL_bad _ _ _
              | some p =>
                obtain ⟨ns', j'⟩ := p
                rw [hx] at h
                have h : termN (exprN n) ns (atP l (j + 1)) = (ns', atP l j') := h
                have hj := exprD_fit l f _ _ _ _ _ (by omega) hx
                have he := exprD_end hx
                rw [h]
                dsimp only
                rw [exprL_more (fitt n) (l.length - (j + 1)) (atP l j').l.length _ _ (by rw [at_len]; omega) (Nat.le_refl _) (by rw [at_len]; omega), ← cont_stop (by rw [show takeB [38] (atP l j').l = isD l j' [38] from take_is hk _ _]; exact rank_less he)]
                exact ihm _ _ (by omega) (by omega) (by omega)
          · rw [if_neg hr]
            obtain ⟨o1, o2⟩ := (op_is hk j).2 (by omega)
            rw [cont_stop (by rw [t38]; exact rank_less (by omega)), exprL_st o1 o2]
            (first | done | rfl)
      have h := head n ns (by omega)
      have e : exprN (n + 1) ns (atP l i) = cont n (facN (exprN n) ns (atP l i)).1 (facN (exprN n) ns (atP l i)).2 := rfl
      rw [e]
      simp only [exprD]
      cases hx : headD (exprD l f) l i ns with
      | none =>
        rw [hx] at h
        have h : (facN (exprN n) ns (atP l i)).2 = PS.bad := h
        rw [h]; exact cont_bad _ _
      | some p =>
        obtain ⟨ns', j⟩ := p
        rw [hx] at h
        have h : facN (exprN n) ns (atP l i) = (ns', atP l j) := h
        rw [h]
        have hj := headD_fit (exprD_fit l f) hx
        exact loop _ _ _ (by omega) (by omega) (by omega)
end Go.Proofs.Ytcgbcbdgjhnlaaa

namespace Go.Proofs.Ytcgbcbdgjhnlaaa

theorem kind_rl {l : List Tok} (hk : TK l) (i : Nat) : Rl l (kindD l i) (kindV (atP l i), kindS (atP l i)) := by
  unfold kindD kindV kindS
  rw [show takeB kUser (atP l i).l = isD l i kUser from take_is hk _ _, tail_is, wdS_is]
  cases h1 : isD l i kUser with
  | true => rfl
  | false =>
    simp only [Bool.false_eq_true, if_false]
    cases h2 : wordD l i with
    | false => rfl
    | true =>
      simp only [if_true, Bool.true_and]
      rw [must_is hk, wdV_is h2]
      cases h3 : isD l (i + 1) [35] with
      | false => rfl
      | true =>
        simp only [if_true, Bool.true_and]
        rw [wdS_is]
        cases h4 : wordD l (i + 2) with
        | false => rfl
        | true => rw [wdV_is h4]; (first | done | rfl)
theorem types_rl0 {l : List Tok} (hk : TK l) : ∀ (m : Nat) (ts : List TypS) (i m' : Nat), i ≤ l.length → l.length < i + m → (kindS (atP l (i + 1))).l.length ≤ m' → Rl l (typesD l m ts i) (typesL m' (ts ++ [kindV (atP l (i + 1))]) (kindS (atP l (i + 1))))
  | 0, ts, i, m', h1, h2, _ => by omega
  | m + 1, ts, i, m', h1, h2, h3 => by
    have h := kind_rl hk (i + 1)
    simp only [typesD]
    cases hx : kindD l (i + 1) with
    | none =>
      rw [hx] at h
      have h : kindS (atP l (i + 1)) = PS.bad := h
      rw [h, typesL_stop rfl]; (first | done | rfl)
    | some p =>
      obtain ⟨t, j⟩ := p
      rw [hx] at h
      simp only [Rl, Prod.mk.injEq] at h
      obtain ⟨e1, e2⟩ := h
      have hj := kindD_le hx
      rw [e2, at_len] at h3
      rw [e1, e2]
      dsimp only
      have t124 : takeB [124] (atP l j).l = isD l j [124] := take_is hk _ _
      cases h4 : isD l j [124] with
      | false =>
        rw [typesL_stop (by rw [t124, h4])]
        (first | done | rfl)
      | true =>
        have hjl := isD_lt h4
        obtain ⟨m'', rfl, e, hm⟩ := typesL_go (ts := ts ++ [t]) (p := atP l j) (by rw [t124, h4]) (m := m') (by rw [at_len]; exact h3)
        rw [tail_is] at e hm
        rw [e]
        exact types_rl0 hk m (ts ++ [t]) j m'' (by omega) (by omega) hm
theorem types_rl {l : List Tok} (hk : TK l) {i : Nat} (hi : i ≤ l.length) : Rl l (typsD l i) (typesN (atP l i)) := by
  unfold typsD typesN
  rw [show takeB [58] (atP l i).l = isD l i [58] from take_is hk _ _, tail_is]
  cases h1 : isD l i [58] with
  | false => rfl
  | true => exact types_rl0 hk _ [] i _ hi (by omega) (Nat.le_refl _)
theorem nodes_rl {l : List Tok} (hk : TK l) {i : Nat} : Rl l (nodsD l i) (nodesN (atP l i)) := by
  unfold nodsD nodesN
  rw [show takeB [61] (atP l i).l = isD l i [61] from take_is hk _ _, tail_is]
  cases h1 : isD l i [61] with
  | false => rfl
  | true =>
    have := isD_lt h1
    exact (expr_rl hk (l.length + 1) (i + 1) (by omega) (by omega)).2.2 _ [] (by rw [at_len]; omega)
theorem rel_rl {l : List Tok} (hk : TK l) {i : Nat} : Rl l (relD l i) (relN (atP l i)) := by
  unfold relD relN
  rw [wdS_is]
  cases h1 : wordD l i with
  | false => rfl
  | true =>
    simp only [if_true]
    rw [wdV_is h1]
    have hil := wordD_lt h1
    have h := types_rl hk (i := i + 1) (by omega)
    cases hx : typsD l (i + 1) with
    | none =>
      rw [hx] at h
      have h : (typesN (atP l (i + 1))).2 = PS.bad := h
      rw [h]; (first | done | rfl)
    | some p =>
      obtain ⟨ts, j⟩ := p
      rw [hx] at h
      have h : typesN (atP l (i + 1)) = (ts, atP l j) := h
      rw [h]
      dsimp only
      have h := nodes_rl hk (i := j)
      cases hy : nodsD l j with
      | none =>
        rw [hy] at h
        have h : (nodesN (atP l j)).2 = PS.bad := h
        rw [h]; (first | done | rfl)
      | some p =>
        obtain ⟨ns, k⟩ := p
        rw [hy] at h
        have h : nodesN (atP l j) = (ns, atP l k) := h
        rw [h]
        dsimp only
        rw [must_is hk]
        cases isD l k [59] <;> rfl
theorem rels_rl {l : List Tok} (hk : TK l) : ∀ (m : Nat) (rs : List RelS) (i m' : Nat), i ≤ l.length → l.length < i + m → l.length ≤ i + m' → Rl l (relsD l m rs i) (relsL m' rs (atP l i))
  | 0, rs, i, m', h1, h2, _ => by omega
  | m + 1, rs, i, m', h1, h2, h3 => by
    simp only [relsD]
    have t : takeB kRelation (atP l i).l = isD l i kRelation := take_is hk _ _
    cases h4 : isD l i kRelation with
    | false =>
      rw [relsL_stop (by rw [t, h4])]
      (first | done | rfl)
    | true =>
      obtain ⟨m'', rfl, e, hm⟩ := relsL_go (rs := rs) (p := atP l i) (by rw [t, h4]) (m := m') (by rw [at_len]; omega)
      rw [tail_is] at e hm
      rw [e]
      simp only [if_true]
      have h := rel_rl hk (i := i + 1)
      cases hx : relD l (i + 1) with
      | none =>
        rw [hx] at h
        have h : (relN (atP l (i + 1))).2 = PS.bad := h
        rw [h, relsL_stop rfl]; (first | done | rfl)
      | some p =>
        obtain ⟨r, j⟩ := p
        rw [hx] at h
        have h : relN (atP l (i + 1)) = (r, atP l j) := h
        have hj := relD_le hx
        rw [h] at hm ⊢
        rw [at_len] at hm
        exact rels_rl hk m (rs ++ [r]) j m'' (by omega) (by omega) (by omega)
theorem space_rl {l : List Tok} (hk : TK l) {i : Nat} : Rl l (spaceD l i) (spaceN (atP l i)) := by
  unfold spaceD spaceN
  rw [wdS_is]
  cases h1 : wordD l i with
  | false => rfl
  | true =>
    simp only [if_true, Bool.true_and]
    rw [wdV_is h1, must_is hk]
    cases h2 : isD l (i + 1) [123] with
    | false => rfl
    | true =>
      have hil := isD_lt h2
      simp only [if_true]
      have h := rels_rl hk (l.length + 1) [] (i + 2) (atP l (i + 2)).l.length (by omega) (by omega) (by rw [at_len]; omega)
      cases hx : relsD l (l.length + 1) [] (i + 2) with
      | none =>
        rw [hx] at h
        have h : (relsL (atP l (i + 2)).l.length [] (atP l (i + 2))).2 = PS.bad := h
        show mustS [125] (relsL (atP l (i + 2)).l.length [] (atP l (i + 2))).2 = PS.bad
        rw [h]; (first | done | rfl)
      | some p =>
        obtain ⟨rs, j⟩ := p
        rw [hx] at h
        have h : relsL (atP l (i + 2)).l.length [] (atP l (i + 2)) = (rs, atP l j) := h
        show Rl l _ ((⟨txD l i, (relsL (atP l (i + 2)).l.length [] (atP l (i + 2))).1⟩ : SpaceS), mustS [125] (relsL (atP l (i + 2)).l.length [] (atP l (i + 2))).2)
        rw [h]
        dsimp only
        rw [must_is hk]
        cases isD l j [125] <;> rfl
theorem knd_is (l : List Tok) (i : Nat) : decide (knd (atP l i) = 2) = txtD l i := by
  unfold knd txtD atP
  cases h : l[i]? with
  | none => rw [drop_none h]; (first | done | rfl)
  | some x => rw [drop_some h]
theorem txt_is (l : List Tok) (i : Nat) : txtOf (atP l i) = txD l i := by
  unfold txtOf txD atP
  cases h : l[i]? with
  | none => rw [drop_none h]
  | some x => rw [drop_some h]
theorem scope_rl {l : List Tok} (hk : TK l) {i : Nat} : Rl l (scopeD l i) (scopeN (atP l i)) := by
  unfold scopeD scopeN
  rw [wdS_is]
  cases h1 : wordD l i with
  | false => rfl
  | true =>
    simp only [if_true, Bool.true_and]
    rw [wdV_is h1, must_is hk]
    cases h2 : isD l (i + 1) [61] with
    | false => rfl
    | true =>
      simp only [if_true, Bool.true_and]
      unfold scopeOK
      rw [knd_is, txt_is]
      cases h3 : txtD l (i + 2) with
      | false => rfl
      | true =>
        simp only [Bool.true_and]
        rw [tail_is, must_is hk]
        unfold cutA
        cases hc : cutL 35 (txD l (i + 2)) with
        | none =>
          have : wordS [] = false := rfl
          simp only [this, Bool.and_false, Bool.false_eq_true, if_false]
          cases isD l (i + 3) [59] <;> rfl
        | some p =>
          obtain ⟨a, b⟩ := p
          obtain ⟨r1, r2⟩ := refR_P a
          dsimp only
          rw [r1]
          cases hr : refP a with
          | none =>
            simp only [Option.isSome_none, Bool.false_and, Bool.false_eq_true, if_false]
            cases isD l (i + 3) [59] <;> rfl
          | some rr =>
            have e1 := r2 rr hr
            have e2 : refM a = rr := by rw [refM, hr]
            rw [e1, e2]
            cases hw : wordS b with
            | false =>
              simp only [Bool.and_false, Bool.false_eq_true, if_false]
              cases isD l (i + 3) [59] <;> rfl
            | true =>
              simp only [Option.isSome_some, Bool.and_self, if_true]
              cases isD l (i + 3) [59] <;> rfl
/-- The whole configuration. -/
def RlC (l : List Tok) : Option ConfS → ConfS × PS → Prop
  | some c, q => ∃ j, q = (c, atP l j)
  | none, q => q.2 = PS.bad
theorem confL_bad (c : ConfS) : ∀ m, confL m c PS.bad = (c, PS.bad)
  | 0 => rfl
  | _ + 1 => rfl
theorem conf_rl {l : List Tok} (hk : TK l) : ∀ (m : Nat) (c : ConfS) (i m' : Nat), i ≤ l.length → l.length < i + m → l.length ≤ i + m' → RlC l (confD l m c i) (confL m' c (atP l i))
  | 0, c, i, m', h1, h2, _ => by omega
  | m + 1, c, i, m', h1, h2, h3 => by
    simp only [confD]
    by_cases hi : i < l.length
    · rw [if_pos hi]
      obtain ⟨m'', rfl⟩ : ∃ m'', m' = m'' + 1 := ⟨m' - 1, by omega⟩
      have hne : ((atP l i).f || (atP l i).l.isEmpty) = false := by
        have : (atP l i).l = l.drop i := rfl
        rw [this, List.drop_eq_getElem_cons hi]; (first | done | rfl)
      simp only [confL, hne]
      rw [show takeB kNamespace (atP l i).l = isD l i kNamespace from take_is hk _ _, show takeB kScope (atP l i).l = isD l i kScope from take_is hk _ _, tail_is]
      simp only [Bool.false_eq_true, if_false]
      cases h4 : isD l i kNamespace with
      | true =>
        simp only [if_true]
        have h := space_rl hk (i := i + 1)
        cases hx : spaceD l (i + 1) with
        | none =>
          rw [hx] at h
          have h : (spaceN (atP l (i + 1))).2 = PS.bad := h
          rw [h, confL_bad]; (first | done | rfl)
        | some p =>
          obtain ⟨s, j⟩ := p
          rw [hx] at h
          have h : spaceN (atP l (i + 1)) = (s, atP l j) := h
          have hj := spaceD_le hx
          rw [h]
          exact conf_rl hk m _ j m'' (by omega) (by omega) (by omega)
      | false =>
        simp only [Bool.false_eq_true, if_false]
        cases h5 : isD l i kScope with
        | true =>
          simp only [if_true]
          have h := scope_rl hk (i := i + 1)
          cases hx : scopeD l (i + 1) with
          | none =>
            rw [hx] at h
            have h : (scopeN (atP l (i + 1))).2 = PS.bad := h
            rw [h, confL_bad]; (first | done | rfl)
          | some p =>
            obtain ⟨s, j⟩ := p
            rw [hx] at h
            have h : scopeN (atP l (i + 1)) = (s, atP l j) := h
            have hj := scopeD_le hx
            rw [h]
            exact conf_rl hk m _ j m'' (by omega) (by omega) (by omega)
        | false =>
          simp only [Bool.false_eq_true, if_false]
          rw [confL_bad]; (first | done | rfl)
    · rw [if_neg hi]
      refine ⟨i, ?_⟩
      have hnil : (atP l i).l = [] := List.drop_eq_nil_of_le (by omega)
      cases m' with
      | zero => rfl
      | succ m' =>
        have : ((atP l i).f || (atP l i).l.isEmpty) = true := by rw [hnil]; simp
        simp only [confL, this, if_true]
theorem confN_rl {l : List Tok} (hk : TK l) : RlC l (confD l (l.length + 1) noConf 0) (confN ⟨l, false⟩) := conf_rl hk (l.length + 1) noConf 0 l.length (Nat.zero_le _) (by omega) (by omega)
theorem nest_is {l : List Tok} (hs : ∀ x ∈ l, x.t = [40] ∨ x.t = [41] → ¬ x.k = 2 → x.k = 3) : ∀ (m o i : Nat), l.length < i + m → nestD l m o i = nestL o (l.drop i)
  | 0, o, i, h => by rw [List.drop_eq_nil_of_le (by omega)]; (first | done | rfl)
  | m + 1, o, i, h => by
    simp only [nestD]
    by_cases hi : i < l.length
    · rw [if_pos hi]
      obtain ⟨x, hx⟩ : ∃ x, l[i]? = some x := ⟨_, List.getElem?_eq_getElem hi⟩
      rw [drop_some hx]
      have hop : openD o l i = openN o x := by
        unfold openD openN isD
        rw [hx]
        dsimp only
        have hm := hs x (List.mem_of_getElem? hx)
        by_cases h1 : x.t = [40]
        · have : ¬ x.t = [41] := by rw [h1]; decide
          by_cases h2 : x.k = 2
          · have h3 : ¬ x.k = 3 := by omega
            simp [h1, h2]
          · have h3 := hm (.inl h1) h2
            simp [h1, h3]
        · by_cases h1' : x.t = [41]
          · by_cases h2 : x.k = 2
            · have h3 : ¬ x.k = 3 := by omega
              simp [h1', h2]
            · have h3 := hm (.inr h1') h2
              simp [h1', h3]
          · simp [h1, h1']
      rw [hop, nest_is hs m (openN o x) (i + 1) (by omega)]
      (first | done | rfl)
    · rw [if_neg hi, List.drop_eq_nil_of_le (by omega)]; (first | done | rfl)
/-- What tokens the lexer makes. -/
theorem lexA_tok (s : List UInt8) : TK (lexA s).1 ∧ ∀ x ∈ (lexA s).1, x.t = [40] ∨ x.t = [41] → ¬ x.k = 2 → x.k = 3 := by
  have key : ∀ x ∈ (lexA s).1, OkT x.k x.t := by
    unfold lexA
    split
    · intro x hx; cases hx
    · split
      · rename_i l h
        exact lexF_ok _ _ _ h
      · intro x hx; cases hx
  refine ⟨fun x hx => ?_, fun x hx ht h2 => ?_⟩
  · obtain ⟨k, t, r⟩ := x
    have := key _ hx
    cases this <;> simp
  · obtain ⟨k, t, r⟩ := x
    have hok := key _ hx
    dsimp only at ht h2 hok ⊢
    cases hok with
    | name c l h1 h3 =>
      rcases ht with ht | ht
      · simp only [List.cons.injEq] at ht
        rw [ht.1] at h1; exact absurd h1 (by decide)
      · simp only [List.cons.injEq] at ht
        rw [ht.1] at h1; exact absurd h1 (by decide)
    | text l h1 => exact absurd rfl h2
    | arrow => rfl
    | sign c h1 => rfl
theorem confD_good {l : List Tok} (hk : TK l) (hb : l.length ≤ 16384 ∧ ∀ x ∈ l, x.t.length ≤ 16384) {x : ConfS} (h : confD l (l.length + 1) noConf 0 = some x) : okC x := by
  have hr := confN_rl hk
  rw [h] at hr
  obtain ⟨j, hr⟩ := hr
  have := conf_good ⟨l, false⟩ hb.2 hb.1
  rw [hr] at this; exact this
end Go.Proofs.Ytcgbcbdgjhnlaaa

namespace Go.Proofs.Ytcgbcbdgjhnlaaa
open Go.RowKit

def dOf : Option (Nat × Nat) → Nat
  | some (0, d) => d
  | _ => 0
theorem deepD_eq (l : List NodeS) : deepD l = dOf (treeD l l.length l.length) := rfl
theorem deepd_x (l : List NodeS) (hl : l.length ≤ 100000) (hok : ∀ n ∈ l, n.small) (u : Value) (W : PW) (h : RP nodeC W u l) : CallsX Try.prog 145 ⟨[u]⟩ [] W fun v _ => v = .int .i64 (deepD l) := by
  obtain ⟨A, c, rfl, _, _⟩ := h.form
  refine pureX hmix Try.func145 r145 (by kernel_rfl) [.slice A l.length c] rfl ?_
  refine ⟨rfl, _, (i64_in ((l.length : Int) - 1) ⟨by omega, by omega⟩).symm, ?_⟩
  refine call_v rfl (fun W' lw => tree_x hl hok l.length l.length _ W' (Nat.le_refl _) (Nat.le_refl _) (h.mono lw)) (fun W3 v W4 l3 l4 hv => ?_)
  obtain ⟨o, ho⟩ : ∃ o, treeD l l.length l.length = o := ⟨_, rfl⟩
  rw [ho] at hv
  have hD : deepD l = dOf o := by rw [deepD_eq, ho]
  obtain ⟨a, ha, hv⟩ : ∃ b', tA o = b' ∧ v = .tuple ⟨[.int .i64 b', .int .i64 (tD o)]⟩ := ⟨_, rfl, hv⟩
  obtain ⟨d, hd, rfl⟩ : ∃ x', tD o = x' ∧ v = .tuple ⟨[.int .i64 a, .int .i64 x']⟩ := ⟨_, rfl, hv⟩
  refine ⟨_, rfl, _, rfl, rfl, ?_⟩
  apply br_nsplit
  · intro hn
    have hn : ¬ a = 0 := hn
    refine ret_plain rfl fun _ _ => ?_
    rw [hD]
    cases o with
    | none => rfl
    | some p =>
      obtain ⟨a', d'⟩ := p
      cases a' with
      | zero => exact absurd ha.symm hn
      | succ a' => rfl
  · intro hn
    have hn : a = 0 := hn
    refine ret_plain rfl fun _ _ => ?_
    rw [hD]
    subst hn
    cases o with
    | none => cases ha
    | some p =>
      obtain ⟨a', d'⟩ := p
      cases a' with
      | zero => rw [← hd]; (first | done | rfl)
      | succ a' => have ha : ((a' + 1 : Nat) : Int) = 0 := ha; omega
def badS (s : SpaceS) : Bool := decide (16 < s.rels.length) || s.rels.any muchD
theorem any_no {α : Type} {q : α → Bool} {l : List α} (h : ∀ y ∈ l, q y = false) : l.any q = false := by
  rw [Bool.eq_false_iff, ne_eq, List.any_eq_true]
  rintro ⟨x, hx, hq⟩; rw [h x hx] at hq; cases hq
theorem any_yes {α : Type} {q : α → Bool} {l : List α} {x : α} (hx : x ∈ l) (h : q x = true) : l.any q = true := List.any_eq_true.2 ⟨x, hx, h⟩
theorem take_none {α : Type} {q : α → Bool} {l : List α} {i : Nat} {x : α} (hx : l[i]? = some x) (h : ∀ y ∈ l.take i, q y = false) (hq : q x = false) : ∀ y ∈ l.take (i + 1), q y = false := by
  intro y hy
  rw [List.take_add_one, hx] at hy
  rcases List.mem_append.1 hy with hy | hy
  · exact h y hy
  · simp at hy; subst hy; exact hq
set_option maxHeartbeats 4000000 in
theorem muchd_x (x : ConfS) (cs : List Value) (hl : x.spaces.length ≤ 100000) (hok : ∀ s ∈ x.spaces, okSpace s) (W : PW) (h : ConfR W x cs) : CallsX Try.prog 101 ⟨[.agg ⟨cs⟩]⟩ [] W fun v _ => v = .bool (muchC x) := by
  obtain ⟨sv, kv, rfl, hS, hK⟩ := h
  obtain ⟨a1, c1, rfl, _, _⟩ := hS.form
  obtain ⟨a2, c2, rfl, _, _⟩ := hK.form
  refine pureX hmix Try.func101 r101 (by kernel_rfl) [.agg ⟨[.slice a1 x.spaces.length c1, .slice a2 x.scopes.length c2]⟩] rfl ?_
  refine ⟨rfl, ?_⟩
  apply br_split
  · intro h1
    have h1 : (16 : Int) < x.spaces.length := h1
    refine ret_plain rfl fun _ _ => ?_
    unfold muchC; rw [decide_eq_true (show 16 < x.spaces.length by omega)]; (first | done | rfl)
  intro h1
  have h1 : ¬ (16 : Int) < x.spaces.length := h1
  refine ⟨rfl, ?_⟩
  apply br_split
  · intro h2
    have h2 : (16 : Int) < x.scopes.length := h2
    refine ret_plain rfl fun _ _ => ?_
    unfold muchC; rw [decide_eq_true (show 16 < x.scopes.length by omega)]; simp
  intro h2
  have h2 : ¬ (16 : Int) < x.scopes.length := h2
  have hW : muchC x = x.spaces.any badS := by
    unfold muchC; rw [decide_eq_false (show ¬ 16 < x.spaces.length by omega), decide_eq_false (show ¬ 16 < x.scopes.length by omega)]; (first | done | rfl)
  rw [hW]
  refine ⟨Nat, fun i => [(3, .v (.int .i64 i))], fun _ => [[.v (.slice a1 x.spaces.length c1), .v (.slice a2 x.scopes.length c2)]], fun _ => [], fun i _ => i ≤ x.spaces.length ∧ ∀ y ∈ x.spaces.take i, badS y = false, fun i => x.spaces.length - i, 0,
    all_sl ⟨rfl, trivial⟩, rfl, ole_refl _, ⟨Nat.zero_le _, by simp⟩, loopOK (fun _ => ⟨⟨trivial, rfl⟩, trivial⟩) (fun _ => rfl) (fun _ => rfl), ?_⟩
  rintro i W1 l1 ⟨hi, hI⟩ fr
  refine ⟨rfl, br_split (fun hq => ?_) (fun hq => ?_)⟩
  rotate_left
  · have hq : ¬ (i : Int) < x.spaces.length := hq
    rw [List.take_of_length_le (by omega)] at hI
    exact ret_plain rfl fun _ _ => by rw [any_no hI]
  have hq : (i : Int) < x.spaces.length := hq
  obtain ⟨pc, rfl, s, ds, hx, hcl, ⟨rv, hds, hR⟩, hall, _⟩ := hS.at SpR.mono l1 (j := i) ⟨by omega, hq⟩
  have hx : x.spaces[i]? = some s := hx
  have hsm := List.mem_of_getElem? hx
  obtain ⟨o1, o2⟩ := hok s hsm
  obtain ⟨a3, c3, rfl, _, _⟩ := hR.form
  subst hds
  have yes : badS s = true → Value.bool true = .bool (x.spaces.any badS) := fun e => by rw [any_yes hsm e]
  refine ⟨⟨by omega, hq⟩, pc, rfl, .slice a3 s.rels.length c3, (hall 1 _ rfl).o, rfl, ?_⟩
  apply br_split
  · intro h3
    have h3 : (16 : Int) < s.rels.length := h3
    exact ret_plain rfl fun _ _ => yes (by unfold badS; rw [decide_eq_true (show 16 < s.rels.length by omega)]; (first | done | rfl))
  intro h3
  have h3 : ¬ (16 : Int) < s.rels.length := h3
  have eS : badS s = s.rels.any muchD := by unfold badS; rw [decide_eq_false (show ¬ 16 < s.rels.length by omega)]; (first | done | rfl)
  rw [eS] at yes
  refine ⟨Nat, fun j => [(4, .v (.int .i64 j))], fun _ => [[.v (.slice (some pc) x.spaces.length c1), .v (.slice a2 x.scopes.length c2)]], fun _ => [], fun j _ => j ≤ s.rels.length ∧ ∀ y ∈ s.rels.take j, muchD y = false, fun j => s.rels.length - j, 0,
    all_sl ⟨rfl, trivial⟩, rfl, ole_refl _, ⟨Nat.zero_le _, by simp⟩, loopOK (fun _ => ⟨⟨trivial, rfl⟩, trivial⟩) (fun _ => rfl) (fun _ => rfl), ?_⟩
  rintro j W2 l2 ⟨hj, hJ⟩ fr2
  refine ⟨⟨by omega, hq⟩, pc, rfl, .slice a3 s.rels.length c3, ((hall 1 _ rfl).mono l2).o, rfl, ?_⟩
  apply br_split
  rotate_left
  · intro hq2
    have hq2 : ¬ (j : Int) < s.rels.length := hq2
    rw [List.take_of_length_le (by omega)] at hJ
    have hs : badS s = false := by rw [eS]; exact any_no hJ
    exact ⟨rfl, _, (i64_in ((i : Int) + 1) ⟨by omega, by omega⟩).symm, i + 1, all_sl ⟨rfl, trivial⟩, rfl, ole_refl _, ⟨by omega, take_none hx hI hs⟩, by dsimp only; omega⟩
  intro hq2
  have hq2 : (j : Int) < s.rels.length := hq2
  obtain ⟨pd, rfl, r, es, hy, hcl2, ⟨tv, nv, hes, hT, hN⟩, _, hrd2⟩ := hR.at RelR.mono l2 (j := j) ⟨by omega, hq2⟩
  have hy : s.rels[j]? = some r := hy
  have hrm := List.mem_of_getElem? hy
  have hrok := o2 r hrm
  obtain ⟨a4, c4, rfl, _, _⟩ := hT.form
  obtain ⟨a5, c5, rfl, _, _⟩ := hN.form
  subst hes
  have yes2 : muchD r = true → Value.bool true = .bool (x.spaces.any badS) := fun e => yes (any_yes hrm e)
  refine ⟨⟨by omega, hq⟩, pc, rfl, .slice (some pd) s.rels.length c3, ((hall 1 _ rfl).mono l2).o, ⟨by omega, hq2⟩, pd, rfl, [strV r.name, .slice a4 r.types.length c4, .slice a5 r.nodes.length c5], rfl, hrd2.o, rfl, ?_⟩
  apply br_split
  · intro h8
    have h8 : (8 : Int) < r.types.length := h8
    exact ret_plain rfl fun _ _ => yes2 (by unfold muchD; rw [decide_eq_true (show 8 < r.types.length by omega)]; (first | done | rfl))
  intro h8
  have h8 : ¬ (8 : Int) < r.types.length := h8
  refine ⟨rfl, ?_⟩
  apply br_split
  · intro h64
    have h64 : (64 : Int) < r.nodes.length := h64
    exact ret_plain rfl fun _ _ => yes2 (by unfold muchD; rw [decide_eq_true (show 64 < r.nodes.length by omega)]; simp)
  intro h64
  have h64 : ¬ (64 : Int) < r.nodes.length := h64
  refine call_v rfl (fun W' lw => deepd_x r.nodes hrok.1 hrok.2 _ W' (hN.mono lw)) (fun W3 v W4 l3 l4 hv => ?_)
  obtain ⟨d, hd, rfl⟩ : ∃ d, deepD r.nodes = d ∧ v = .int .i64 (d : Nat) := ⟨_, rfl, hv⟩
  have eR : muchD r = decide (16 < d) := by
    unfold muchD; rw [decide_eq_false (show ¬ 8 < r.types.length by omega), decide_eq_false (show ¬ 64 < r.nodes.length by omega), hd]; (first | done | rfl)
  refine ⟨rfl, br_split (fun h16 => ?_) (fun h16 => ?_)⟩
  · have h16 : (16 : Int) < d := h16
    exact ret_plain rfl fun _ _ => yes2 (by rw [eR, decide_eq_true (show 16 < d by omega)])
  have h16 : ¬ (16 : Int) < d := h16
  have hr : muchD r = false := by rw [eR, decide_eq_false (show ¬ 16 < d by omega)]
  exact ⟨rfl, _, (i64_in ((j : Int) + 1) ⟨by omega, by omega⟩).symm, j + 1, all_sl ⟨rfl, trivial⟩, rfl, ole_refl _, ⟨by omega, take_none hy hJ hr⟩, by dsimp only; omega⟩
set_option maxHeartbeats 4000000 in
theorem nestd_x (N : Nat) (l : List Tok) (hl : l.length ≤ 16384) (u : Value) (W : PW) (h : RP (tokC N) W u l) : CallsX Try.prog 99 ⟨[u]⟩ [] W fun v _ => v = .bool (nestD l (l.length + 1) 0 0) := by
  obtain ⟨A, c, rfl, _, _⟩ := h.form
  obtain ⟨RR, hRR⟩ : ∃ RR, nestD l (l.length + 1) 0 0 = RR := ⟨_, rfl⟩
  rw [hRR]
  refine pureX hmix Try.func99 r99 (by kernel_rfl) [.slice A l.length c] rfl ?_
  refine ⟨Nat × Nat, fun t => [(3, .v (.int .i64 t.2)), (4, .v (.int .i64 t.1))], fun _ => [], fun _ => [],
    fun t _ => t.1 ≤ l.length ∧ t.2 ≤ 16 ∧ ∃ m, l.length < t.1 + m ∧ RR = nestD l m t.2 t.1, fun t => l.length - t.1, (0, 0),
    all_sl ⟨rfl, rfl, trivial⟩, rfl, ole_refl _, ⟨Nat.zero_le _, by decide, _, by dsimp only; omega, hRR.symm⟩, loopOK (fun _ => ⟨⟨trivial, rfl⟩, ⟨trivial, rfl⟩, trivial⟩) (fun _ => rfl) (fun _ => rfl), ?_⟩
  rintro ⟨i, o⟩ W1 l1 ⟨hi, ho, m, hm, hres⟩ fr
  dsimp only at hi ho hm hres
  obtain ⟨m', rfl⟩ : ∃ m', m = m' + 1 := ⟨m - 1, by omega⟩
  simp only [nestD] at hres
  refine ⟨rfl, br_split (fun hq => ?_) (fun hq => ?_)⟩
  rotate_left
  · have hq : ¬ (i : Int) < l.length := hq
    rw [if_neg (by omega)] at hres
    exact ret_plain rfl fun _ _ => by rw [hres]
  have hq : (i : Int) < l.length := hq
  rw [if_pos (by omega)] at hres
  have fin : ∀ (o' : Nat), openD o l i = o' → RR = if 16 < o' then true else nestD l m' o' (i + 1) := fun o' e => by rw [hres, e]
  have wi : IntKind.i64.wrap ((i : Int) + 1) = (i : Int) + 1 := i64_in _ ⟨by omega, by omega⟩
  refine vc_assoc (vc_cut (fun f' S' => ∃ (o' : Nat) (W2 : PW), S' = ⟨[], [], W2⟩ ∧ W1.Le W2 ∧ openD o l i = o' ∧ o' ≤ 17 ∧ AllSl f' [(0, .v (.slice A l.length c)), (3, .v (.int .i64 o')), (4, .v (.int .i64 i))]) ?_ ?_)
  · refine call_v rfl (fun W' lw => isd_x N l hl [40] i _ W' (h.mono (l1.trans lw))) (fun W3 v W4 l3 l4 hv => ?_)
    obtain ⟨b, hb, rfl⟩ : ∃ b, isD l i [40] = b ∧ v = .bool b := ⟨_, rfl, hv⟩
    have l04 := l3.trans l4
    cases b with
    | true =>
      refine ⟨rfl, _, (i64_in ((o : Int) + 1) ⟨by omega, by omega⟩).symm, ?_⟩
      refine call_v rfl (fun W' lw => isd_x N l hl [41] i _ W' (h.mono (l1.trans (l04.trans lw)))) (fun W5 v W6 l5 l6 hv => ?_)
      obtain ⟨b, hb2, rfl⟩ : ∃ b, isD l i [41] = b ∧ v = .bool b := ⟨_, rfl, hv⟩
      have nb : isD l i [41] = false := by
        unfold isD at hb ⊢
        split at hb
        · rename_i x hx
          simp only [Bool.and_eq_true, decide_eq_true_eq] at hb
          rw [hb.2]; simp
        · cases hb
      rw [nb] at hb2; subst hb2
      have e : openD o l i = o + 1 := by rw [openD, hb, nb]; (first | done | rfl)
      exact ⟨o + 1, W6, rfl, l04.trans (l5.trans l6), e, by omega, ⟨rfl, rfl, rfl, trivial⟩⟩
    | false =>
      refine call_v rfl (fun W' lw => isd_x N l hl [41] i _ W' (h.mono (l1.trans (l04.trans lw)))) (fun W5 v W6 l5 l6 hv => ?_)
      obtain ⟨b, hb2, rfl⟩ : ∃ b, isD l i [41] = b ∧ v = .bool b := ⟨_, rfl, hv⟩
      cases b with
      | false =>
        have e : openD o l i = o := by rw [openD, hb, hb2]; (first | done | rfl)
        exact ⟨o, W6, rfl, l04.trans (l5.trans l6), e, by omega, ⟨rfl, rfl, rfl, trivial⟩⟩
      | true =>
        have e : openD o l i = o - 1 := by rw [openD, hb, hb2]; (first | done | rfl)
        refine ⟨rfl, br_split (fun h0 => ?_) (fun h0 => ?_)⟩
        · have h0 : (0 : Int) < o := h0
          refine ⟨rfl, _, (i64_in ((o : Int) - 1) ⟨by omega, by omega⟩).symm, o - 1, W6, rfl, l04.trans (l5.trans l6), e, by omega, ⟨rfl, ?_, rfl, trivial⟩⟩
          show GV.v (.int .i64 ((o : Int) - 1)) = .v (.int .i64 ((o - 1 : Nat) : Int))
          rw [show (o : Int) - 1 = ((o - 1 : Nat) : Int) by omega]
        · have h0 : ¬ (0 : Int) < o := h0
          exact ⟨o, W6, rfl, l04.trans (l5.trans l6), by rw [e]; omega, by omega, ⟨rfl, rfl, rfl, trivial⟩⟩
  rintro f' S' ⟨o', W2, rfl, l2, ho', hle, hfr⟩
  refine vc_at _ hfr ?_
  have hfin := fin o' ho'
  refine ⟨rfl, br_split (fun hg => ?_) (fun hg => ?_)⟩
  · have hg : (16 : Int) < o' := hg
    rw [if_pos (by omega)] at hfin
    exact ret_plain rfl fun _ _ => by rw [hfin]
  · have hg : ¬ (16 : Int) < o' := hg
    rw [if_neg (by omega)] at hfin
    exact ⟨rfl, _, wi.symm, (i + 1, o'), all_sl ⟨rfl, rfl, trivial⟩, rfl, ole_refl _, ⟨by dsimp only; omega, by dsimp only; omega, m', by dsimp only; omega, hfin⟩, by dsimp only; omega⟩
theorem parsed_x (s : List UInt8) (W : PW) : CallsX Try.prog 53 ⟨[strV s]⟩ [] W fun v W' => ∃ cells, v = .tuple ⟨[.agg ⟨cells⟩, .int .i64 (ruleD s).2]⟩ ∧ ConfR W' (ruleD s).1 cells := by
  obtain ⟨b1, b2⟩ := lexA_b s
  have bad : ∀ e : Int, ruleD s = (noConf, e) → ∀ W', ∃ cells, Value.tuple ⟨[.agg ⟨[.slice none 0 0, .slice none 0 0]⟩, .int .i64 e]⟩ = .tuple ⟨[.agg ⟨cells⟩, .int .i64 (ruleD s).2]⟩ ∧ ConfR W' (ruleD s).1 cells := fun e er W' => by rw [er]; exact ⟨_, rfl, ConfR.no _⟩
  refine pureX hmix Try.func53 r53 (by kernel_rfl) [strV s] rfl ?_
  refine call_v rfl (fun W' _ => reflex_x s W') (fun W3 v W4 _ _ ⟨u, hv, hr⟩ => ?_)
  obtain ⟨e, he, rfl⟩ : ∃ e, (lexA s).2 = e ∧ v = .tuple ⟨[u, .int .i64 e]⟩ := ⟨_, rfl, hv⟩
  obtain ⟨A, c, rfl, _, _⟩ := hr.form
  refine ⟨_, rfl, _, rfl, rfl, br_nsplit (fun h0 => ?_) (fun h0 => ?_)⟩
  · have h0 : ¬ e = 0 := h0
    exact ret_plain rfl fun W' _ => bad _ (by unfold ruleD; rw [if_neg (by rw [he]; exact h0), he]) W'
  have h0 : e = 0 := h0
  refine call_v rfl (fun W' lw => nestd_x s.length (lexA s).1 b1 _ W' (hr.mono lw)) (fun W5 v W6 l5 l6 hv => ?_)
  obtain ⟨b, hb, rfl⟩ : ∃ b, nestD (lexA s).1 ((lexA s).1.length + 1) 0 0 = b ∧ v = .bool b := ⟨_, rfl, hv⟩
  cases b with
  | true => exact ret_plain rfl fun W' _ => bad _ (by unfold ruleD; rw [if_pos (by rw [he]; exact h0), if_pos hb]) W'
  | false =>
  have e0 : ruleD s = match confD (lexA s).1 ((lexA s).1.length + 1) noConf 0 with
      | none => (noConf, 4)
      | some c => if muchC c then (noConf, 25) else (c, 0) := by unfold ruleD; rw [if_pos (by rw [he]; exact h0), if_neg (by rw [hb]; exact Bool.false_ne_true)]; (first | done | rfl)
  refine call_v rfl (fun W' lw => confd_x s.length (lexA s).1 ⟨b1, b2⟩ _ W' (hr.mono (l5.trans (l6.trans lw)))) (fun W7 v W8 l7 l8 hv => ?_)
  cases hc : confD (lexA s).1 ((lexA s).1.length + 1) noConf 0 with
  | none =>
    rw [hc] at hv e0
    obtain rfl : v = .tuple ⟨[.agg ⟨[.slice none 0 0, .slice none 0 0]⟩, .bool false]⟩ := hv
    refine ⟨_, rfl, _, rfl, ?_⟩
    exact ret_plain rfl fun W' _ => bad _ e0 W'
  | some x =>
    rw [hc] at hv e0
    dsimp only at e0
    obtain ⟨cells, rfl, sv, kv, rfl, hS, hK⟩ := hv
    obtain ⟨a1, c1, rfl, _, _⟩ := hS.form
    obtain ⟨a2, c2, rfl, _, _⟩ := hK.form
    have hC : ConfR W8 x _ := ⟨_, _, rfl, hS, hK⟩
    have hgood : okC x := confD_good (lexA_tok s).1 ⟨b1, b2⟩ hc
    refine ⟨_, rfl, _, rfl, ?_⟩
    refine call_v rfl (fun W' lw => muchd_x x _ (by have := hgood.n; omega) (fun s hs => (hgood.sp s hs).space) W' (hC.mono _ _ _ _ lw)) (fun W9 v W10 l9 l10 hv => ?_)
    obtain ⟨b, hbm, rfl⟩ : ∃ b, muchC x = b ∧ v = .bool b := ⟨_, rfl, hv⟩
    rw [hbm] at e0
    cases b with
    | true =>
      rw [if_pos rfl] at e0
      exact ret_plain rfl fun W' _ => bad _ e0 W'
    | false =>
      rw [if_neg Bool.false_ne_true] at e0
      refine ret_plain rfl fun W' l => ?_
      rw [e0]
      exact ⟨_, rfl, ConfR.mono _ _ _ _ (l9.trans (l10.trans l)) hC⟩
end Go.Proofs.Ytcgbcbdgjhnlaaa

namespace Go.Proofs.Ytcgbcbdgjhnlaaa

theorem deepR_app : ∀ (a b : List NodeS) (ss ds : List Int), deepR ss ds (a ++ b) = match deepR ss ds a with | some (s', d') => deepR s' d' b | none => none
  | [], b, ss, ds => rfl
  | n :: a, b, ss, ds => by
    simp only [List.cons_append, deepR]
    cases stepD ss ds n with
    | none => rfl
    | some p => exact deepR_app a b _ _
/-- Nodes that are one tree, behind so many others. -/
structure Seg (a e d : Nat) (seg : List NodeS) : Prop where
  len : seg.length = e - a
  lt : a < e
  pos : 1 ≤ d
  run : ∀ ss ds : List Int, ss.length = a → ds.length = a → ∃ s' d', deepR ss ds seg = some (ss ++ s', ds ++ d') ∧ s'.length = e - a ∧ d'.length = e - a ∧ s'.getD (e - a - 1) 0 = ((e - a : Nat) : Int) ∧ d'.getD (e - a - 1) 0 = d
theorem Seg.leaf {n : NodeS} (h1 : isOp n = false) (h2 : leafN n = true) (a : Nat) : Seg a (a + 1) 1 [n] := by
  refine ⟨by simp, by omega, Nat.le_refl _, fun ss ds _ _ => ⟨[1], [1], ?_, by simp, by simp, ?_, ?_⟩⟩
  · simp only [deepR, stepD, h1, h2, if_true, Bool.false_eq_true, if_false]
  · simp
  · simp
theorem getD_app {ss t : List Int} {i : Nat} : (ss ++ t).getD (ss.length + i) 0 = t.getD i 0 := by
  rw [List.getD_eq_getElem?_getD, List.getD_eq_getElem?_getD, List.getElem?_append_right (by omega), Nat.add_sub_cancel_left]
theorem getD_app_l {ss t : List Int} {i : Nat} (h : i < ss.length) : (ss ++ t).getD i 0 = ss.getD i 0 := by
  rw [List.getD_eq_getElem?_getD, List.getD_eq_getElem?_getD, List.getElem?_append_left h]
theorem Seg.join {a b e x y : Nat} {k : Int} {s1 s2 : List NodeS} (h1 : Seg a b y s1) (h2 : Seg b e x s2) (hk : k = 4 ∨ k = 5 ∨ k = 6) : Seg a (e + 1) ((if x < y then y else x) + 1) (s1 ++ s2 ++ [⟨k, [], [], (b : Int) - 1, (e : Int) - 1⟩]) := by
  have q1 := h1.lt
  have q2 := h2.lt
  have q3 := h1.pos
  have q4 := h2.pos
  refine ⟨by simp only [List.length_append, List.length_singleton, h1.len, h2.len]; omega, by omega, by omega, fun ss ds hs hd => ?_⟩
  obtain ⟨u1, v1, r1, r2, r3, r4, r5⟩ := h1.run ss ds hs hd
  obtain ⟨u2, v2, p1, p2, p3, p4, p5⟩ := h2.run (ss ++ u1) (ds ++ v1) (by rw [List.length_append]; omega) (by rw [List.length_append]; omega)
  have ls : (ss ++ u1 ++ u2).length = e := by simp only [List.length_append]; omega
  have ld : (ds ++ v1 ++ v2).length = e := by simp only [List.length_append]; omega
  have g1 : (ss ++ u1 ++ u2).getD (b - 1) 0 = ((b - a : Nat) : Int) := by
    rw [getD_app_l (by simp only [List.length_append]; omega), show b - 1 = ss.length + (b - a - 1) by omega, getD_app, r4]
  have g2 : (ss ++ u1 ++ u2).getD (e - 1) 0 = ((e - b : Nat) : Int) := by
    rw [show e - 1 = (ss ++ u1).length + (e - b - 1) by simp only [List.length_append]; omega, getD_app, p4]
  have g3 : (ds ++ v1 ++ v2).getD (b - 1) 0 = y := by
    rw [getD_app_l (by simp only [List.length_append]; omega), show b - 1 = ds.length + (b - a - 1) by omega, getD_app, r5]
  have g4 : (ds ++ v1 ++ v2).getD (e - 1) 0 = x := by
    rw [show e - 1 = (ds ++ v1).length + (e - b - 1) by simp only [List.length_append]; omega, getD_app, p5]
  have hop : isOp (⟨k, [], [], (b : Int) - 1, (e : Int) - 1⟩ : NodeS) = true := by
    unfold isOp
    rcases hk with rfl | rfl | rfl <;> rfl
  have t1 : ((b : Int) - 1).toNat = b - 1 := by omega
  have t2 : ((e : Int) - 1).toNat = e - 1 := by omega
  refine ⟨u1 ++ u2 ++ [((e + 1 - a : Nat) : Int)], v1 ++ v2 ++ [(((if x < y then y else x) + 1 : Nat) : Int)], ?_, by simp only [List.length_append, List.length_singleton]; omega, by simp only [List.length_append, List.length_singleton]; omega, ?_, ?_⟩
  · rw [deepR_app, deepR_app, r1]
    dsimp only
    rw [p1]
    dsimp only
    have hst : stepD (ss ++ u1 ++ u2) (ds ++ v1 ++ v2) ⟨k, [], [], (b : Int) - 1, (e : Int) - 1⟩ = some (((e + 1 - a : Nat) : Int), (((if x < y then y else x) + 1 : Nat) : Int)) := by
      unfold stepD
      rw [hop]
      dsimp only
      rw [ls, g2, t1, t2, g1, g2, g3, g4, if_pos rfl, if_pos ⟨rfl, rfl, rfl, by omega, by omega, by omega⟩]
      congr 1
      refine Prod.ext ?_ ?_
      · show ((b - a : Nat) : Int) + ((e - b : Nat) : Int) + 1 = ((e + 1 - a : Nat) : Int); omega
      · show (if (y : Int) ≤ x then (x : Int) else y) + 1 = (((if x < y then y else x) + 1 : Nat) : Int)
        split <;> split <;> omega
    simp only [deepR, hst]
    simp only [List.append_assoc]
  · have : e + 1 - a - 1 = (u1 ++ u2).length + 0 := by simp only [List.length_append]; omega
    rw [this, getD_app]; (first | done | rfl)
  · have : e + 1 - a - 1 = (v1 ++ v2).length + 0 := by simp only [List.length_append]; omega
    rw [this, getD_app]; (first | done | rfl)
theorem tree_seg {l : List NodeS} : ∀ (f e a d : Nat), treeD l f e = some (a, d) → a < e ∧ e ≤ l.length ∧ Seg a e d ((l.drop a).take (e - a))
  | 0, e, a, d, h => by cases h
  | f + 1, 0, a, d, h => by cases h
  | f + 1, e + 1, a, d, h => by
    simp only [treeD] at h
    split at h
    · cases h
    · rename_i n hn
      have hl := (List.getElem?_eq_some_iff.1 hn).1
      split at h
      · rename_i hop
        split at h
        · cases h
        · rename_i b x hb
          obtain ⟨i1, i2, hs2⟩ := tree_seg f _ _ _ hb
          split at h
          · cases h
          · rename_i a' y ha
            obtain ⟨j1, j2, hs1⟩ := tree_seg f _ _ _ ha
            split at h
            · rename_i hc
              simp only [Option.some.injEq, Prod.mk.injEq] at h
              obtain ⟨rfl, rfl⟩ := h
              refine ⟨by omega, by omega, ?_⟩
              have hk : n.kind = 4 ∨ n.kind = 5 ∨ n.kind = 6 := by
                unfold isOp at hop
                simp only [Bool.or_eq_true, decide_eq_true_eq] at hop
                omega
              have hj := Seg.join hs1 hs2 hk
              have en : n = ⟨n.kind, [], [], (b : Int) - 1, (e : Int) - 1⟩ := by
                obtain ⟨k, r, t, na, nb⟩ := n
                obtain ⟨h1, h2, h3, h4⟩ := hc
                dsimp only at h1 h2 h3 h4
                rw [h1, h2, h3, h4]
              rw [← en] at hj
              have es : (l.drop a').take (e + 1 - a') = (l.drop a').take (b - a') ++ (l.drop b).take (e - b) ++ [n] := by
                have e1 : (l.drop a').take (e - a') = (l.drop a').take (b - a') ++ (l.drop b).take (e - b) := by
                  rw [show e - a' = (b - a') + (e - b) by omega, List.take_add, List.drop_drop, show a' + (b - a') = b by omega]
                rw [show e + 1 - a' = (e - a') + 1 by omega, List.take_add_one, e1, List.getElem?_drop, show a' + (e - a') = e by omega, hn]; (first | done | rfl)
              rw [es]; exact hj
            · cases h
      · rename_i hop
        split at h
        · rename_i hleaf
          simp only [Option.some.injEq, Prod.mk.injEq] at h
          obtain ⟨rfl, rfl⟩ := h
          refine ⟨by omega, by omega, ?_⟩
          have es : (l.drop e).take (e + 1 - e) = [n] := by
            rw [show e + 1 - e = 0 + 1 by omega, List.take_add_one, List.getElem?_drop, Nat.add_zero, hn]; (first | done | rfl)
          rw [es]
          exact Seg.leaf (by simpa using hop) hleaf e
        · cases h
theorem deep_seg {l : List NodeS} {d : Nat} (h : Seg 0 l.length d l) : deepN l = d := by
  obtain ⟨s', d', h1, h2, h3, h4, h5⟩ := h.run [] [] rfl rfl
  have hl := h.lt
  unfold deepN
  rw [h1]
  simp only [List.nil_append, Nat.sub_zero] at *
  rw [if_neg, h5]
  rintro (h6 | h6)
  · rw [h6] at hl; exact absurd hl (Nat.lt_irrefl _)
  · exact h6 h4
theorem treeD_app {l r : List NodeS} : ∀ (f e : Nat), e ≤ l.length → treeD (l ++ r) f e = treeD l f e
  | 0, e, _ => rfl
  | f + 1, 0, _ => rfl
  | f + 1, e + 1, h => by
    simp only [treeD]
    rw [List.getElem?_append_left (show e < l.length by omega), treeD_app f e (by omega)]
    cases hn : l[e]? with
    | none => rfl
    | some n =>
      dsimp only
      cases hb : treeD l f e with
      | none => rfl
      | some p =>
        obtain ⟨b, x⟩ := p
        obtain ⟨i1, i2, _⟩ := tree_seg f _ _ _ hb
        dsimp only
        rw [treeD_app f b (by omega)]
structure DeepOK (l : List NodeS) (ss ds : List Int) : Prop where
  n : ss.length = l.length
  m : ds.length = l.length
  t : ∀ e, e < l.length → ∃ s d : Nat, ss.getD e 0 = s ∧ ds.getD e 0 = d ∧ s ≤ e + 1 ∧ 1 ≤ s ∧ ∀ f, e + 1 ≤ f → treeD l f (e + 1) = some (e + 1 - s, d)
theorem deepR_ok : ∀ (r l : List NodeS) (ss ds ss' ds' : List Int), DeepOK l ss ds → deepR ss ds r = some (ss', ds') → DeepOK (l ++ r) ss' ds'
  | [], l, ss, ds, ss', ds', h, e => by
    simp only [deepR, Option.some.injEq, Prod.mk.injEq] at e
    obtain ⟨rfl, rfl⟩ := e
    rw [List.append_nil]; exact h
  | n :: r, l, ss, ds, ss', ds', h, e => by
    simp only [deepR] at e
    split at e
    · rename_i x y hst
      have key : DeepOK (l ++ [n]) (ss ++ [x]) (ds ++ [y]) := by
        refine ⟨by simp [h.n], by simp [h.m], fun i hi => ?_⟩
        rw [List.length_append, List.length_singleton] at hi
        by_cases hil : i < l.length
        · obtain ⟨s, d, h1, h2, h3, h4, h5⟩ := h.t i hil
          refine ⟨s, d, by rw [getD_app_l (by rw [h.n]; exact hil)]; exact h1, by rw [getD_app_l (by rw [h.m]; exact hil)]; exact h2, h3, h4, fun f hf => ?_⟩
          rw [treeD_app f (i + 1) (by omega)]; exact h5 f hf
        · obtain rfl : i = l.length := by omega
          have gx : (ss ++ [x]).getD l.length 0 = x := by rw [← h.n, show ss.length = ss.length + 0 from rfl, getD_app]; (first | done | rfl)
          have gy : (ds ++ [y]).getD l.length 0 = y := by rw [← h.m, show ds.length = ds.length + 0 from rfl, getD_app]; (first | done | rfl)
          rw [gx, gy]
          have hn : (l ++ [n])[l.length]? = some n := by simp
          unfold stepD at hst
          split at hst
          · rename_i hop
            split at hst
            · rename_i hc
              obtain ⟨c1, c2, c3, c4, c5, c6⟩ := hc
              simp only [Option.some.injEq, Prod.mk.injEq] at hst
              obtain ⟨rfl, rfl⟩ := hst
              rw [h.n] at c3 c5
              have hl1 : l.length - 1 < l.length := by omega
              obtain ⟨s2, d2, a1, a2, a3, a4, a5⟩ := h.t (l.length - 1) hl1
              rw [a1] at c5
              have hna : n.a.toNat = l.length - 1 - s2 := by omega
              obtain ⟨s1, d1, b1, b2, b3, b4, b5⟩ := h.t (l.length - 1 - s2) (by omega)
              have hnb : n.b.toNat = l.length - 1 := by omega
              rw [hna, hnb, a1, a2, b1, b2]
              refine ⟨s1 + s2 + 1, (if d2 < d1 then d1 else d2) + 1, by omega, by split <;> split <;> omega, by omega, by omega, fun f hf => ?_⟩
              obtain ⟨f, rfl⟩ : ∃ f', f = f' + 1 := ⟨f - 1, by omega⟩
              simp only [treeD, hn, hop, if_true]
              rw [treeD_app f l.length (Nat.le_refl _)]
              have t2 := a5 f (by omega)
              rw [show l.length - 1 + 1 = l.length by omega] at t2
              rw [t2]
              dsimp only
              have t1 := b5 f (by omega)
              rw [show l.length - 1 - s2 + 1 = l.length - s2 by omega] at t1
              rw [treeD_app f (l.length - s2) (by omega), t1]
              dsimp only
              rw [if_pos ⟨by omega, by omega, c1, c2⟩]
              congr 2
              omega
            · cases hst
          · rename_i hop
            split at hst
            · rename_i hleaf
              simp only [Option.some.injEq, Prod.mk.injEq] at hst
              obtain ⟨rfl, rfl⟩ := hst
              refine ⟨1, 1, rfl, rfl, by omega, by omega, fun f hf => ?_⟩
              obtain ⟨f, rfl⟩ : ∃ f', f = f' + 1 := ⟨f - 1, by omega⟩
              simp only [treeD, hn]
              rw [if_neg hop, if_pos hleaf]; (first | done | rfl)
            · cases hst
      have := deepR_ok r (l ++ [n]) _ _ _ _ key e
      rw [List.append_assoc] at this
      exact this
    · cases e
theorem deep_is (l : List NodeS) : deepN l = (deepD l : Int) := by
  have h0 : DeepOK [] [] [] := ⟨rfl, rfl, fun e h => by cases h⟩
  cases hr : deepR [] [] l with
  | none =>
    have e1 : deepN l = 0 := by unfold deepN; rw [hr]
    rw [e1]
    unfold deepD
    split
    · rename_i d ht
      obtain ⟨_, _, hs⟩ := tree_seg _ _ _ _ ht
      obtain ⟨s', d', h1, _⟩ := hs.run [] [] rfl rfl
      rw [List.drop_zero, Nat.sub_zero, List.take_length, hr] at h1
      cases h1
    · rfl
  | some p =>
    obtain ⟨ss, ds⟩ := p
    have hok := deepR_ok l [] [] [] ss ds h0 hr
    rw [List.nil_append] at hok
    unfold deepN
    rw [hr]
    dsimp only
    cases hl : l with
    | nil => rfl
    | cons n r =>
      rw [← hl]
      have hlen : 1 ≤ l.length := by rw [hl]; simp
      obtain ⟨s, d, h1, h2, h3, h4, h5⟩ := hok.t (l.length - 1) (by omega)
      have ht := h5 l.length (by omega)
      rw [show l.length - 1 + 1 = l.length by omega] at ht h3
      rw [h1, h2]
      unfold deepD
      rw [ht]
      by_cases hs : s = l.length
      · rw [if_neg, hs, Nat.sub_self]
        · rfl
        · rintro (h | h)
          · rw [h] at hlen; cases hlen
          · exact h (by omega)
      · rw [if_pos (.inr (by omega))]
        obtain ⟨z, hz⟩ : ∃ z, l.length - s = z + 1 := ⟨l.length - s - 1, by omega⟩
        rw [hz]; (first | done | rfl)
end Go.Proofs.Ytcgbcbdgjhnlaaa

namespace Go.Proofs.Ytcgbcbdgjhnlaaa

/-- An expression's nodes behind others: one tree. -/
def SegG (ns ns' : List NodeS) : Prop := ∃ seg d, ns' = ns ++ seg ∧ Seg ns.length ns'.length d seg
theorem wordD_ok {l : List Tok} {i : Nat} (h : wordD l i = true) : wordS (txD l i) = true := by
  unfold wordD at h
  unfold txD
  cases hx : l[i]? with
  | none => rw [hx] at h; cases h
  | some x =>
    rw [hx] at h
    have h : wordT x = true := h
    unfold wordT at h
    simp only [Bool.and_eq_true] at h
    exact h.2
theorem SegG.leaf {n : NodeS} (h1 : isOp n = false) (h2 : leafN n = true) (ns : List NodeS) : SegG ns (ns ++ [n]) := ⟨[n], 1, rfl, by rw [List.length_append]; exact Seg.leaf h1 h2 _⟩
theorem SegG.join {ns n1 n2 : List NodeS} (h1 : SegG ns n1) (h2 : SegG n1 n2) {k : Nat} (hk : k = 4 ∨ k = 5 ∨ k = 6) : SegG ns (joinN k n1 n2) := by
  obtain ⟨s1, y, rfl, g1⟩ := h1
  obtain ⟨s2, x, e2, g2⟩ := h2
  refine ⟨s1 ++ s2 ++ [⟨k, [], [], ((ns ++ s1).length : Int) - 1, (n2.length : Int) - 1⟩], (if x < y then y else x) + 1, ?_, ?_⟩
  · unfold joinN
    rw [e2]; simp only [List.append_assoc]
  · rw [joinN_len]
    exact Seg.join g1 g2 (by omega)
theorem oprD_ok (s : List UInt8) : oprD s = 4 ∨ oprD s = 5 ∨ oprD s = 6 := by
  unfold oprD
  split
  · exact .inl rfl
  · split
    · exact .inr (.inr rfl)
    · exact .inr (.inl rfl)
def SegE (ex : Nat → Nat → List NodeS → ND) : Prop := ∀ i least ns ns' j, ex i least ns = some (ns', j) → SegG ns ns'
theorem head_seg {l : List Tok} {ex : Nat → Nat → List NodeS → ND} (h : SegE ex) {i : Nat} {ns ns' : List NodeS} {j : Nat} (e : headD ex l i ns = some (ns', j)) : SegG ns ns' := by
  unfold headD at e
  split at e
  · cases hx : ex (i + 1) 1 ns with
    | none => rw [hx] at e; cases e
    | some p =>
      obtain ⟨ns2, k⟩ := p
      rw [hx] at e
      simp only [closeD] at e
      split at e
      · simp only [Option.some.injEq, Prod.mk.injEq] at e
        obtain ⟨rfl, rfl⟩ := e
        exact h _ _ _ _ _ hx
      · cases e
  · split at e
    · simp only [Option.some.injEq, Prod.mk.injEq] at e
      obtain ⟨rfl, rfl⟩ := e
      exact SegG.leaf rfl rfl _
    · split at e
      · rename_i h1
        simp only [Bool.and_eq_true] at h1
        split at e
        · rename_i h2
          simp only [Option.some.injEq, Prod.mk.injEq] at e
          obtain ⟨rfl, rfl⟩ := e
          refine SegG.leaf rfl ?_ _
          simp [leafN, wordD_ok h1.1, wordD_ok h2]
        · cases e
      · split at e
        · rename_i h1
          simp only [Option.some.injEq, Prod.mk.injEq] at e
          obtain ⟨rfl, rfl⟩ := e
          refine SegG.leaf rfl ?_ _
          simp [leafN, wordD_ok h1]
        · cases e
theorem loop_seg {l : List Tok} {ex : Nat → Nat → List NodeS → ND} (h : SegE ex) {least : Nat} {n0 : List NodeS} : ∀ (m : Nat) (ns ns' : List NodeS) (i j : Nat), SegG n0 ns → loopD ex l least m ns i = some (ns', j) → SegG n0 ns'
  | 0, ns, ns', i, j, _, e => by cases e
  | m + 1, ns, ns', i, j, h0, e => by
    simp only [loopD] at e
    split at e
    · split at e
      · rename_i ns2 k hx
        exact loop_seg h m _ _ _ _ (h0.join (h _ _ _ _ _ hx) (oprD_ok _)) e
      · cases e
    · simp only [Option.some.injEq, Prod.mk.injEq] at e
      obtain ⟨rfl, rfl⟩ := e
      exact h0
theorem expr_seg (l : List Tok) : ∀ f : Nat, SegE (exprD l f)
  | 0, i, least, ns, ns', j, e => by cases e
  | f + 1, i, least, ns, ns', j, e => by
    simp only [exprD] at e
    split at e
    · rename_i ns2 k hx
      exact loop_seg (expr_seg l f) _ _ _ _ _ (head_seg (expr_seg l f) hx) e
    · cases e
theorem segG_deep {ns : List NodeS} (h : SegG [] ns) : ¬ deepN ns = 0 := by
  obtain ⟨seg, d, e, h⟩ := h
  rw [List.nil_append] at e
  subst e
  rw [deep_seg h]
  have := h.pos
  omega
theorem nods_ok {l : List Tok} {i j : Nat} {ns : List NodeS} (e : nodsD l i = some (ns, j)) : ¬ deepN ns = 0 := by
  unfold nodsD at e
  split at e
  · exact segG_deep (expr_seg l _ _ _ _ _ _ e)
  · simp only [Option.some.injEq, Prod.mk.injEq] at e
    obtain ⟨rfl, rfl⟩ := e
    have : SegG [] [thisN] := SegG.leaf (n := thisN) rfl rfl []
    exact segG_deep this
theorem kind_ok {l : List Tok} {i j : Nat} {t : TypS} (e : kindD l i = some (t, j)) : typOK t = true := by
  unfold kindD at e
  split at e
  · simp only [Option.some.injEq, Prod.mk.injEq] at e
    obtain ⟨rfl, rfl⟩ := e; (first | done | rfl)
  · split at e
    · rename_i h
      simp only [Bool.and_eq_true] at h
      simp only [Option.some.injEq, Prod.mk.injEq] at e
      obtain ⟨rfl, rfl⟩ := e
      simp [typOK, wordD_ok h.1, wordD_ok h.2.2]
    · cases e
theorem all_snoc {α : Type} {q : α → Bool} {l : List α} {x : α} (h : l.all q = true) (hx : q x = true) : (l ++ [x]).all q = true := by simp [h, hx]
theorem types_ok {l : List Tok} : ∀ (m : Nat) (ts ts' : List TypS) (i j : Nat), ts.all typOK = true → typesD l m ts i = some (ts', j) → ts'.all typOK = true
  | 0, ts, ts', i, j, _, e => by cases e
  | m + 1, ts, ts', i, j, h, e => by
    simp only [typesD] at e
    split at e
    · rename_i t k hx
      have h1 := all_snoc h (kind_ok hx)
      split at e
      · exact types_ok m _ _ _ _ h1 e
      · simp only [Option.some.injEq, Prod.mk.injEq] at e
        obtain ⟨rfl, rfl⟩ := e
        exact h1
    · cases e
theorem typs_ok {l : List Tok} {i j : Nat} {ts : List TypS} (e : typsD l i = some (ts, j)) : ts.all typOK = true := by
  unfold typsD at e
  split at e
  · exact types_ok _ _ _ _ _ rfl e
  · simp only [Option.some.injEq, Prod.mk.injEq] at e
    obtain ⟨rfl, rfl⟩ := e; (first | done | rfl)
theorem rel_ok {l : List Tok} {i j : Nat} {r : RelS} (e : relD l i = some (r, j)) : relOK r = true := by
  unfold relD at e
  split at e
  · rename_i hw
    split at e
    · rename_i ts k hx
      split at e
      · rename_i ns k2 hy
        split at e
        · simp only [Option.some.injEq, Prod.mk.injEq] at e
          obtain ⟨rfl, rfl⟩ := e
          simp [relOK, wordD_ok hw, nods_ok hy, typs_ok hx]
        · cases e
      · cases e
    · cases e
  · cases e
theorem rels_ok {l : List Tok} : ∀ (m : Nat) (rs rs' : List RelS) (i j : Nat), rs.all relOK = true → relsD l m rs i = some (rs', j) → rs'.all relOK = true
  | 0, rs, rs', i, j, _, e => by cases e
  | m + 1, rs, rs', i, j, h, e => by
    simp only [relsD] at e
    split at e
    · split at e
      · rename_i r k hx
        exact rels_ok m _ _ _ _ (all_snoc h (rel_ok hx)) e
      · cases e
    · simp only [Option.some.injEq, Prod.mk.injEq] at e
      obtain ⟨rfl, rfl⟩ := e; exact h
theorem space_ok {l : List Tok} {i j : Nat} {s : SpaceS} (e : spaceD l i = some (s, j)) : spOK s = true := by
  unfold spaceD at e
  split at e
  · rename_i hw
    simp only [Bool.and_eq_true] at hw
    split at e
    · rename_i rs k hx
      split at e
      · simp only [Option.some.injEq, Prod.mk.injEq] at e
        obtain ⟨rfl, rfl⟩ := e
        simp [spOK, wordD_ok hw.1, rels_ok _ _ _ _ _ rfl hx]
      · cases e
    · cases e
  · cases e
theorem scope_ok {l : List Tok} {i j : Nat} {s : ScopeS} (e : scopeD l i = some (s, j)) : scOK s = true := by
  unfold scopeD at e
  split at e
  · rename_i hw
    simp only [Bool.and_eq_true] at hw
    split at e
    · split at e
      · rename_i h
        simp only [Bool.and_eq_true] at h
        simp only [Option.some.injEq, Prod.mk.injEq] at e
        obtain ⟨rfl, rfl⟩ := e
        simp [scOK, wordD_ok hw.1, h.1, h.2]
      · cases e
    · cases e
  · cases e
theorem conf_ok {l : List Tok} : ∀ (m : Nat) (c c' : ConfS) (i : Nat), c.spaces.all spOK = true → c.scopes.all scOK = true → confD l m c i = some c' → c'.spaces.all spOK = true ∧ c'.scopes.all scOK = true
  | 0, c, c', i, _, _, e => by cases e
  | m + 1, c, c', i, h1, h2, e => by
    simp only [confD] at e
    split at e
    · split at e
      · split at e
        · rename_i s k hx
          exact conf_ok m ⟨c.spaces ++ [s], c.scopes⟩ _ _ (all_snoc h1 (space_ok hx)) h2 e
        · cases e
      · split at e
        · split at e
          · rename_i s k hx
            exact conf_ok m ⟨c.spaces, c.scopes ++ [s]⟩ _ _ h1 (all_snoc h2 (scope_ok hx)) e
          · cases e
        · cases e
    · simp only [Option.some.injEq] at e
      subst e; exact ⟨h1, h2⟩
theorem much_is (r : RelS) : muchN r = muchD r := by
  unfold muchN muchD
  rw [deep_is]
  congr 2
  rw [decide_eq_decide]; omega
theorem within_is (c : ConfS) : withinN c = !muchC c := by
  unfold withinN muchC
  have : (c.spaces.all fewS) = !(c.spaces.any fun s => decide (16 < s.rels.length) || s.rels.any muchD) := by
    rw [← Bool.not_not (c.spaces.all fewS), ← any_not]
    congr 2
    funext s
    unfold fewS
    rw [Bool.not_not, show muchN = muchD from funext much_is]
  rw [this, Bool.not_or, Bool.not_or]
/-- The two answers are one; and what is parsed is right. -/
theorem rule_is (s : List UInt8) : ruleP s = ruleD s ∧ ((ruleP s).2 = 0 → rightN (ruleP s).1 = true) := by
  obtain ⟨k1, k2⟩ := lexA_tok s
  unfold ruleP ruleD
  by_cases he : (lexA s).2 = 0
  · rw [if_pos he, if_pos he, nest_is k2 _ 0 0 (by omega), List.drop_zero]
    cases hn : nestL 0 (lexA s).1 with
    | true => simp only [if_true]; exact ⟨trivial, fun h => by cases h⟩
    | false =>
      simp only [Bool.false_eq_true, if_false]
      have hr := confN_rl k1
      cases hc : confD (lexA s).1 ((lexA s).1.length + 1) noConf 0 with
      | none =>
        rw [hc] at hr
        have hr : (confN ⟨(lexA s).1, false⟩).2 = PS.bad := hr
        rw [hr]
        simp only [PS.bad, if_true]
        exact ⟨trivial, fun h => by cases h⟩
      | some c =>
        rw [hc] at hr
        obtain ⟨j, hr⟩ := hr
        have hok := conf_ok _ _ _ _ rfl rfl hc
        rw [hr]
        simp only [atP, Bool.false_eq_true, if_false]
        rw [within_is]
        cases hm : muchC c with
        | true =>
          simp only [Bool.not_true, Bool.false_eq_true, if_false, if_true]
          exact ⟨trivial, fun h => by cases h⟩
        | false =>
          simp only [Bool.not_false, if_true, Bool.false_eq_true, if_false]
          refine ⟨trivial, fun _ => ?_⟩
          unfold rightN
          rw [within_is, hm, hok.1, hok.2]; (first | done | rfl)
  · rw [if_neg he, if_neg he]
    exact ⟨rfl, fun h => absurd h he⟩
theorem ruleP_good (s : List UInt8) : okC (ruleP s).1 := by
  have hno : okC noConf := ⟨Nat.zero_le _, Nat.zero_le _, fun s hs => (by cases hs), fun s hs => (by cases hs)⟩
  obtain ⟨b1, b2⟩ := lexA_b s
  unfold ruleP
  split
  · split
    · exact hno
    · split
      · exact hno
      · split
        · exact conf_good ⟨(lexA s).1, false⟩ b2 b1
        · exact hno
  · exact hno
end Go.Proofs.Ytcgbcbdgjhnlaaa

namespace Go.Proofs.Ytcgbcbdgjhnlaaa
open Go.RowKit

theorem eqNode : EqOK Try.prog 93 [93] := ⟨Try.eqGuardType93, fun s hs => by rw [List.mem_singleton.1 hs]; exact Try.stoodInHeld93⟩
theorem eqScope : EqOK Try.prog 163 [163, 42] := ⟨Try.eqGuardType163, fun s hs => by
  simp only [List.mem_cons, List.not_mem_nil, or_false] at hs
  rcases hs with rfl | rfl
  · exact Try.stoodInHeld163
  · exact Try.stoodInHeld42⟩
set_option maxHeartbeats 4000000 in
theorem samerel_x (r : RelS) (hl : r.types.length ≤ 1000000 ∧ r.nodes.length ≤ 1000000) (cs ds : List Value) (W : PW) (h : RelR W r cs) (h' : RelR W r ds) : CallsX Try.prog 102 ⟨[.agg ⟨cs⟩, .agg ⟨ds⟩]⟩ [] W fun v _ => v = .bool true := by
  obtain ⟨tv, nv, rfl, hT, hN⟩ := h
  obtain ⟨tv', nv', rfl, hT', hN'⟩ := h'
  obtain ⟨l1, l2⟩ := hl
  obtain ⟨a1, c1, rfl, _, _⟩ := hT.form
  obtain ⟨a2, c2, rfl, _, _⟩ := hN.form
  obtain ⟨b1, d1, rfl, _, _⟩ := hT'.form
  obtain ⟨b2, d2, rfl, _, _⟩ := hN'.form
  refine pureX hmix Try.func102 r102 (by kernel_rfl) [.agg ⟨[strV r.name, .slice a1 r.types.length c1, .slice a2 r.nodes.length c2]⟩, .agg ⟨[strV r.name, .slice b1 r.types.length d1, .slice b2 r.nodes.length d2]⟩] rfl ?_
  refine br_nsplit (fun hn => absurd rfl hn) (fun _ => ⟨rfl, ?_⟩)
  apply br_nsplit (fun hn => absurd rfl hn)
  intro _
  refine ⟨rfl, ?_⟩
  apply br_nsplit (fun hn => absurd rfl hn)
  intro _
  refine ⟨Nat, fun i => [(5, .v (.int .i64 i))], fun _ => [[.v (strV r.name), .v (.slice a1 r.types.length c1), .v (.slice a2 r.nodes.length c2)], [.v (strV r.name), .v (.slice b1 r.types.length d1), .v (.slice b2 r.nodes.length d2)]], fun _ => [], fun i _ => i ≤ r.types.length, fun i => r.types.length - i, 0,
    all_sl ⟨rfl, trivial⟩, rfl, ole_refl _, Nat.zero_le _, loopOK (fun _ => ⟨⟨trivial, rfl⟩, trivial⟩) (fun _ => rfl) (fun _ => rfl), ?_⟩
  intro i W1 w1 hi fr
  refine ⟨rfl, br_split (fun hq => ?_) (fun hq => ?_)⟩
  · have hq : (i : Int) < r.types.length := hq
    obtain ⟨p1, rfl, x, hx, _, _, hr1⟩ := hT.at (sz := 2) (fun _ => rfl) w1 (j := i) ⟨by omega, hq⟩
    obtain ⟨p2, rfl, y, hy, _, _, hr2⟩ := hT'.at (sz := 2) (fun _ => rfl) w1 (j := i) ⟨by omega, hq⟩
    obtain rfl : x = y := Option.some.inj (hx.symm.trans hy)
    refine ⟨⟨by omega, hq⟩, p1, rfl, typC x, rfl, hr1.o, ⟨by omega, hq⟩, p2, rfl, typC x, rfl, hr2.o, eqTyp, ?_⟩
    refine br_f (by simp) ?_
    exact ⟨rfl, _, (i64_in ((i : Int) + 1) ⟨by omega, by omega⟩).symm, i + 1, all_sl ⟨rfl, trivial⟩, rfl, ole_refl _, by omega, by dsimp only; omega⟩
  refine ⟨Nat, fun i => [(6, .v (.int .i64 i))], fun _ => [[.v (strV r.name), .v (.slice a1 r.types.length c1), .v (.slice a2 r.nodes.length c2)], [.v (strV r.name), .v (.slice b1 r.types.length d1), .v (.slice b2 r.nodes.length d2)]], fun _ => [], fun i _ => i ≤ r.nodes.length, fun i => r.nodes.length - i, 0,
    all_sl ⟨rfl, trivial⟩, rfl, ole_refl _, Nat.zero_le _, loopOK (fun _ => ⟨⟨trivial, rfl⟩, trivial⟩) (fun _ => rfl) (fun _ => rfl), ?_⟩
  intro j W2 w2 hj fr2
  refine ⟨rfl, br_split (fun hq => ?_) (fun hq => ?_)⟩
  · have hq : (j : Int) < r.nodes.length := hq
    obtain ⟨p1, rfl, x, hx, _, _, hr1⟩ := hN.at (sz := 5) (fun _ => rfl) (w1.trans w2) (j := j) ⟨by omega, hq⟩
    obtain ⟨p2, rfl, y, hy, _, _, hr2⟩ := hN'.at (sz := 5) (fun _ => rfl) (w1.trans w2) (j := j) ⟨by omega, hq⟩
    obtain rfl : x = y := Option.some.inj (hx.symm.trans hy)
    refine ⟨⟨by omega, hq⟩, p1, rfl, nodeC x, rfl, hr1.o, ⟨by omega, hq⟩, p2, rfl, nodeC x, rfl, hr2.o, eqNode, ?_⟩
    refine br_f (by simp) ?_
    exact ⟨rfl, _, (i64_in ((j : Int) + 1) ⟨by omega, by omega⟩).symm, j + 1, all_sl ⟨rfl, trivial⟩, rfl, ole_refl _, by omega, by dsimp only; omega⟩
  exact ret_plain rfl fun _ _ => rfl
set_option maxHeartbeats 4000000 in
theorem same_x (x : ConfS) (hok : okCB x) (cs ds : List Value) (W : PW) (h : ConfR W x cs) (h' : ConfR W x ds) : CallsX Try.prog 54 ⟨[.agg ⟨cs⟩, .agg ⟨ds⟩]⟩ [] W fun v _ => v = .bool true := by
  obtain ⟨sv, kv, rfl, hS, hK⟩ := h
  obtain ⟨sv', kv', rfl, hS', hK'⟩ := h'
  have hn := hok.n
  have hm := hok.m
  obtain ⟨a1, c1, rfl, _, _⟩ := hS.form
  obtain ⟨a2, c2, rfl, _, _⟩ := hK.form
  obtain ⟨b1, d1, rfl, _, _⟩ := hS'.form
  obtain ⟨b2, d2, rfl, _, _⟩ := hK'.form
  refine pureX hmix Try.func54 r54 (by kernel_rfl) [.agg ⟨[.slice a1 x.spaces.length c1, .slice a2 x.scopes.length c2]⟩, .agg ⟨[.slice b1 x.spaces.length d1, .slice b2 x.scopes.length d2]⟩] rfl ?_
  refine ⟨rfl, br_nsplit (fun hn => absurd rfl hn) (fun _ => ⟨rfl, ?_⟩)⟩
  apply br_nsplit (fun hn => absurd rfl hn)
  intro _
  refine ⟨Nat, fun i => [(5, .v (.int .i64 i))], fun _ => [[.v (.slice a1 x.spaces.length c1), .v (.slice a2 x.scopes.length c2)], [.v (.slice b1 x.spaces.length d1), .v (.slice b2 x.scopes.length d2)]], fun _ => [], fun i _ => i ≤ x.spaces.length, fun i => x.spaces.length - i, 0,
    all_sl ⟨rfl, trivial⟩, rfl, ole_refl _, Nat.zero_le _, loopOK (fun _ => ⟨⟨trivial, rfl⟩, trivial⟩) (fun _ => rfl) (fun _ => rfl), ?_⟩
  intro i W1 w1 hi fr
  refine ⟨rfl, br_split (fun hq => ?_) (fun hq => ?_)⟩
  · have hq : (i : Int) < x.spaces.length := hq
    obtain ⟨p1, rfl, s, es, hx, _, ⟨rv, hes, hR⟩, hr1, _⟩ := hS.at SpR.mono w1 (j := i) ⟨by omega, hq⟩
    obtain ⟨p2, rfl, s', es', hy, _, ⟨rv', hes', hR'⟩, hr2, _⟩ := hS'.at SpR.mono w1 (j := i) ⟨by omega, hq⟩
    obtain rfl : s = s' := Option.some.inj (hx.symm.trans hy)
    have hx : x.spaces[i]? = some s := hx
    have hsok := hok.sp s (List.mem_of_getElem? hx)
    have hrn := hsok.n
    obtain ⟨a3, c3, rfl, _, _⟩ := hR.form
    obtain ⟨b3, d3, rfl, _, _⟩ := hR'.form
    subst hes hes'
    refine ⟨⟨by omega, hq⟩, p1, rfl, strV s.name, (hr1 0 _ rfl).o, ⟨by omega, hq⟩, p2, rfl, strV s.name, (hr2 0 _ rfl).o, br_nsplit (fun hn => absurd rfl hn) (fun _ => ?_)⟩
    refine ⟨⟨by omega, hq⟩, p1, rfl, .slice a3 s.rels.length c3, (hr1 1 _ rfl).o, ⟨by omega, hq⟩, p2, rfl, .slice b3 s.rels.length d3, (hr2 1 _ rfl).o, rfl, ?_⟩
    apply br_nsplit (fun hn => absurd rfl hn)
    intro _
    refine ⟨Nat, fun j => [(6, .v (.int .i64 j))], fun _ => [[.v (.slice (some p1) x.spaces.length c1), .v (.slice a2 x.scopes.length c2)], [.v (.slice (some p2) x.spaces.length d1), .v (.slice b2 x.scopes.length d2)]], fun _ => [], fun j _ => j ≤ s.rels.length, fun j => s.rels.length - j, 0,
      all_sl ⟨rfl, trivial⟩, rfl, ole_refl _, Nat.zero_le _, loopOK (fun _ => ⟨⟨trivial, rfl⟩, trivial⟩) (fun _ => rfl) (fun _ => rfl), ?_⟩
    intro j W2 w2 hj fr2
    refine ⟨⟨by omega, hq⟩, p1, rfl, .slice a3 s.rels.length c3, ((hr1 1 _ rfl).mono w2).o, rfl, ?_⟩
    apply br_split
    · intro hq2
      have hq2 : (j : Int) < s.rels.length := hq2
      obtain ⟨p3, rfl, r, fs, hx3, _, hR3, hr3, hrd3⟩ := hR.at RelR.mono w2 (j := j) ⟨by omega, hq2⟩
      obtain ⟨p4, rfl, r', fs', hy3, _, hR4, hr4, hrd4⟩ := hR'.at RelR.mono w2 (j := j) ⟨by omega, hq2⟩
      obtain rfl : r = r' := Option.some.inj (hx3.symm.trans hy3)
      have hx3 : s.rels[j]? = some r := hx3
      have hrok := hsok.rels r (List.mem_of_getElem? hx3)
      have hfs : fs.length = 3 := by obtain ⟨_, _, rfl, _⟩ := hR3; (first | done | rfl)
      have hfs' : fs'.length = 3 := by obtain ⟨_, _, rfl, _⟩ := hR4; (first | done | rfl)
      refine ⟨⟨by omega, hq⟩, p1, rfl, .slice (some p3) s.rels.length c3, ((hr1 1 _ rfl).mono w2).o, ⟨by omega, hq2⟩, p3, rfl, fs, hfs, hrd3.o,
        ⟨by omega, hq⟩, p2, rfl, .slice (some p4) s.rels.length d3, ((hr2 1 _ rfl).mono w2).o, ⟨by omega, hq2⟩, p4, rfl, fs', hfs', hrd4.o, ?_⟩
      refine call_v rfl (fun W' lw => samerel_x r ⟨hrok.tn, by have := hrok.rel.1; omega⟩ fs fs' W' (RelR.mono _ _ _ _ lw hR3) (RelR.mono _ _ _ _ lw hR4)) (fun W3 v W4 _ _ hv => ?_)
      subst hv
      exact ⟨rfl, _, (i64_in ((j : Int) + 1) ⟨by omega, by omega⟩).symm, j + 1, all_sl ⟨rfl, trivial⟩, rfl, ole_refl _, by omega, by dsimp only; omega⟩
    · intro _
      exact ⟨rfl, _, (i64_in ((i : Int) + 1) ⟨by omega, by omega⟩).symm, i + 1, all_sl ⟨rfl, trivial⟩, rfl, ole_refl _, by omega, by dsimp only; omega⟩
  refine ⟨Nat, fun i => [(7, .v (.int .i64 i))], fun _ => [[.v (.slice a1 x.spaces.length c1), .v (.slice a2 x.scopes.length c2)], [.v (.slice b1 x.spaces.length d1), .v (.slice b2 x.scopes.length d2)]], fun _ => [], fun i _ => i ≤ x.scopes.length, fun i => x.scopes.length - i, 0,
    all_sl ⟨rfl, trivial⟩, rfl, ole_refl _, Nat.zero_le _, loopOK (fun _ => ⟨⟨trivial, rfl⟩, trivial⟩) (fun _ => rfl) (fun _ => rfl), ?_⟩
  intro j W2 w2 hj fr2
  refine ⟨rfl, br_split (fun hq => ?_) (fun hq => ?_)⟩
  · have hq : (j : Int) < x.scopes.length := hq
    obtain ⟨p1, rfl, s, hx, _, _, hr1⟩ := hK.at (sz := 4) (fun _ => rfl) (w1.trans w2) (j := j) ⟨by omega, hq⟩
    obtain ⟨p2, rfl, s', hy, _, _, hr2⟩ := hK'.at (sz := 4) (fun _ => rfl) (w1.trans w2) (j := j) ⟨by omega, hq⟩
    obtain rfl : s = s' := Option.some.inj (hx.symm.trans hy)
    refine ⟨⟨by omega, hq⟩, p1, rfl, scopeC s, rfl, hr1.o, ⟨by omega, hq⟩, p2, rfl, scopeC s, rfl, hr2.o, eqScope, ?_⟩
    refine br_f (by simp) ?_
    exact ⟨rfl, _, (i64_in ((j : Int) + 1) ⟨by omega, by omega⟩).symm, j + 1, all_sl ⟨rfl, trivial⟩, rfl, ole_refl _, by omega, by dsimp only; omega⟩
  exact ret_plain rfl fun _ _ => rfl
end Go.Proofs.Ytcgbcbdgjhnlaaa

namespace Go.Proofs.Ytcgbcbdgjhnlaaa
open Go.RowKit

def livesT : List UInt8 := [110, 97, 109, 101, 115, 112, 97, 99, 101, 32, 100, 111, 99, 32, 123, 32, 114, 101, 108, 97, 116, 105, 111, 110, 32, 118, 105, 101, 119, 101, 114, 58, 32, 117, 115, 101, 114, 32, 61, 32, 116, 104, 105, 115, 59, 32, 125]
theorem livesT_ok : (ruleP livesT).2 = 0 ∧ (ruleP livesT).1.spaces.length = 1 := ⟨by kernel_rfl, by kernel_rfl⟩
theorem rulelives_x (W : PW) : CallsX Try.prog 56 ⟨[]⟩ [] W fun v _ => v = .bool true := by
  refine pureX hmix Try.func56 r56 (by kernel_rfl) [] rfl ?_
  obtain ⟨e1, e2⟩ := livesT_ok
  have e3 := (rule_is livesT).2 e1
  have hok := (ruleP_good livesT).b
  refine call_v rfl (fun W' _ => ruleparse_x livesT W') (fun W2 v W3 _ _ hv => ?_)
  rw [e1] at hv
  obtain ⟨c, hc⟩ : ∃ c, (ruleP livesT).1 = c := ⟨_, rfl⟩
  rw [hc] at hv e2 e3 hok
  obtain ⟨cells, rfl, sv, kv, rfl, hS, hK⟩ := hv
  obtain ⟨a1, c1, rfl, _, _⟩ := hS.form
  obtain ⟨a2, c2, rfl, _, _⟩ := hK.form
  have hC : ConfR W3 c _ := ⟨_, _, rfl, hS, hK⟩
  refine ⟨_, rfl, _, rfl, rfl, rfl, ?_⟩
  apply br_split
  rotate_left
  · intro h
    exact absurd (show (c.spaces.length : Int) = 1 by omega) h
  intro _
  refine call_v rfl (fun W' lw => right_x c _ hok W' (ConfR.mono _ _ _ _ lw hC)) (fun W4 v W5 _ _ hv => ?_)
  rw [e3] at hv; subst hv
  exact ret_plain rfl fun _ _ => rfl
set_option maxHeartbeats 4000000 in
theorem ruleparses_x (s0 : List UInt8) (W : PW) : CallsX Try.prog 11 ⟨[strV s0]⟩ [] W fun v _ => v = .bool true := by
  refine pureX hmix Try.func11 r11 (by kernel_rfl) [strV s0] rfl ?_
  refine call_v rfl (fun W' _ => short_x s0 900 W') (fun W2 v W3 _ _ hv => ?_)
  obtain ⟨s, rfl⟩ : ∃ s, v = strV s := ⟨_, hv⟩
  obtain ⟨r1, r2⟩ := rule_is s
  have hok := (ruleP_good s).b
  refine call_v rfl (fun W' _ => ruleparse_x s W') (fun W4 v W5 l4 l5 hv => ?_)
  obtain ⟨p, hp⟩ : ∃ p, ruleP s = p := ⟨_, rfl⟩
  rw [hp] at r1 r2 hv hok
  obtain ⟨c, e⟩ := p
  dsimp only at r2 hv hok
  obtain ⟨cells, rfl, sv, kv, rfl, hS, hK⟩ := hv
  obtain ⟨a1, c1, rfl, _, _⟩ := hS.form
  obtain ⟨a2, c2, rfl, _, _⟩ := hK.form
  have hC : ConfR W5 c _ := ⟨_, _, rfl, hS, hK⟩
  refine ⟨_, rfl, _, rfl, ?_⟩
  refine call_v rfl (fun W' _ => parsed_x s W') (fun W6 v W7 l6 l7 hv => ?_)
  rw [← r1] at hv
  dsimp only at hv
  obtain ⟨cells', rfl, sv', kv', rfl, hS', hK'⟩ := hv
  obtain ⟨b1, d1, rfl, _, _⟩ := hS'.form
  obtain ⟨b2, d2, rfl, _, _⟩ := hK'.form
  have hC' : ConfR W7 c _ := ⟨_, _, rfl, hS', hK'⟩
  have hC := ConfR.mono _ _ _ _ (l6.trans l7) hC
  refine ⟨_, rfl, _, rfl, ?_⟩
  refine call_v rfl (fun W' lw => same_x c hok _ _ W' (ConfR.mono _ _ _ _ lw hC) (ConfR.mono _ _ _ _ lw hC')) (fun W8 v W9 l8 l9 hv => ?_)
  subst hv
  have hC := ConfR.mono _ _ _ _ (l8.trans l9) hC
  refine ⟨rfl, br_split (fun _ => ?_) (fun hn => absurd rfl hn)⟩
  refine ⟨rfl, ?_⟩
  apply br_nsplit
  · intro _
    refine call_v rfl (fun W' _ => rulelives_x W') (fun Wa v Wb _ _ hv => ?_)
    subst hv
    exact ret_plain rfl fun _ _ => rfl
  · intro h0
    have h0 : e = 0 := h0
    refine call_v rfl (fun W' lw => right_x c _ hok W' (ConfR.mono _ _ _ _ lw hC)) (fun Wa v Wb _ _ hv => ?_)
    rw [r2 h0] at hv; subst hv
    refine call_v rfl (fun W' _ => rulelives_x W') (fun Wc v Wd _ _ hv => ?_)
    subst hv
    exact ret_plain rfl fun _ _ => rfl
end Go.Proofs.Ytcgbcbdgjhnlaaa
