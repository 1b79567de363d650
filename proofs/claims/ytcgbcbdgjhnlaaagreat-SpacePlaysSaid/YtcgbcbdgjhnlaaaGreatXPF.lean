/- Layer 16 (rule): the program's parser, plain and walked. -/
import Derived.Test.YtcgbcbdgjhnlaaaGreatXPD
import Derived.Test.YtcgbcbdgjhnlaaaGreatXPE
import Derived.Test.YtcgbcbdgjhnlaaaGreatXCodeZ
namespace Go.Proofs.YtcgbcbdgjhnlaaaGreat
open Go.RowKit

/-- Elements, each related to its cells. -/
def LR {α : Type} (R : PW → α → List Value → Prop) (sz : Nat) (W : PW) : List α → List (List Value) → Prop
  | [], [] => True
  | x :: xs, c :: cs => (c.length = sz ∧ R W x c) ∧ LR R sz W xs cs
  | _, _ => False
theorem LR.mono {α : Type} {R : PW → α → List Value → Prop} {sz : Nat} (hR : ∀ W W' x c, W.Le W' → R W x c → R W' x c) {W W' : PW} (l : W.Le W') : ∀ {xs : List α} {cs : List (List Value)}, LR R sz W xs cs → LR R sz W' xs cs
  | [], [], _ => trivial
  | _ :: _, _ :: _, h => ⟨⟨h.1.1, hR _ _ _ _ l h.1.2⟩, LR.mono hR l h.2⟩
  | [], _ :: _, h => h.elim
  | _ :: _, [], h => h.elim
theorem LR.snoc {α : Type} {R : PW → α → List Value → Prop} {sz : Nat} {W : PW} {x : α} {c : List Value} (hc : c.length = sz) (hx : R W x c) : ∀ {xs : List α} {cs : List (List Value)}, LR R sz W xs cs → LR R sz W (xs ++ [x]) (cs ++ [c])
  | [], [], _ => ⟨⟨hc, hx⟩, trivial⟩
  | _ :: _, _ :: _, h => ⟨h.1, LR.snoc hc hx h.2⟩
  | [], _ :: _, h => h.elim
  | _ :: _, [], h => h.elim
theorem LR.len {α : Type} {R : PW → α → List Value → Prop} {sz : Nat} {W : PW} : ∀ {xs : List α} {cs : List (List Value)}, LR R sz W xs cs → cs.length = xs.length ∧ cs.flatten.length = xs.length * sz
  | [], [], _ => ⟨rfl, by simp⟩
  | _ :: xs, c :: cs, h => by
    obtain ⟨h1, h2⟩ := LR.len h.2
    refine ⟨by simp [h1], ?_⟩
    simp only [List.flatten_cons, List.length_append, h2, h.1.1, List.length_cons, Nat.add_mul]; omega
  | [], _ :: _, h => h.elim
  | _ :: _, [], h => h.elim
theorem LR.get {α : Type} {R : PW → α → List Value → Prop} {sz : Nat} {W : PW} : ∀ {xs : List α} {cs : List (List Value)}, LR R sz W xs cs → ∀ {j : Nat}, j < xs.length → ∃ x c, xs[j]? = some x ∧ c.length = sz ∧ R W x c ∧ ∀ (off : Nat) (v : Value), c[off]? = some v → cs.flatten[j * sz + off]? = some v
  | [], [], _, j, hj => by simp at hj
  | x :: xs, c :: cs, h, 0, _ => ⟨x, c, rfl, h.1.1, h.1.2, fun off v hv => by
    rw [Nat.zero_mul, Nat.zero_add, List.flatten_cons, List.getElem?_append_left (List.getElem?_eq_some_iff.1 hv).1]; exact hv⟩
  | x :: xs, c :: cs, h, j + 1, hj => by
    obtain ⟨y, d, h1, h2, h3, h4⟩ := LR.get h.2 (j := j) (by simpa using hj)
    refine ⟨y, d, by simpa using h1, h2, h3, fun off v hv => ?_⟩
    rw [List.flatten_cons, List.getElem?_append_right (by rw [h.1.1, Nat.add_mul]; omega), h.1.1, show (j + 1) * sz + off - sz = j * sz + off by rw [Nat.add_mul]; omega]
    exact h4 off v hv
  | [], _ :: _, h, _, _ => h.elim
  | _ :: _, [], h, _, _ => h.elim
/-- A slice of such elements, which is never written again. -/
def RL {α : Type} (R : PW → α → List Value → Prop) (sz : Nat) (W : PW) (v : Value) (xs : List α) : Prop := ∃ cs, LR R sz W xs cs ∧ SlRead W v xs.length cs.flatten
theorem RL.mono {α : Type} {R : PW → α → List Value → Prop} {sz : Nat} (hR : ∀ W W' x c, W.Le W' → R W x c → R W' x c) {W W' : PW} (l : W.Le W') {v : Value} {xs : List α} (h : RL R sz W v xs) : RL R sz W' v xs :=
  let ⟨cs, h1, h2⟩ := h; ⟨cs, h1.mono hR l, SlRead.mono h2 l⟩
theorem RL.form {α : Type} {R : PW → α → List Value → Prop} {sz : Nat} {W : PW} {v : Value} {xs : List α} (h : RL R sz W v xs) : ∃ A c, v = .slice A xs.length c ∧ xs.length ≤ c ∧ c ≤ maxLen := let ⟨_, _, h2⟩ := h; SlRead.form h2
theorem RL.nil {α : Type} (R : PW → α → List Value → Prop) (sz : Nat) (W : PW) : RL R sz W (.slice none 0 0) [] := ⟨[], trivial, SlRead.nil W _⟩
theorem RL.at {α : Type} {R : PW → α → List Value → Prop} {sz : Nat} (hR : ∀ W W' x c, W.Le W' → R W x c → R W' x c) {W W' : PW} {A : Option Addr} {n c : Nat} {xs : List α} (h : RL R sz W (.slice A n c) xs) (l : W.Le W') {j : Int} (hj : 0 ≤ j ∧ j < n) :
    ∃ a, A = some a ∧ ∃ x cs, xs[j.toNat]? = some x ∧ cs.length = sz ∧ R W' x cs ∧ (∀ (off : Nat) (v : Value), cs[off]? = some v → Rd W' ((a.add (j.toNat * sz)).add off) v) ∧ Rds W' (a.add (j.toNat * sz)) cs := by
  obtain ⟨cs, h1, A', c', e, h2, h3, h4⟩ := h
  simp only [Value.slice.injEq] at e
  obtain ⟨rfl, rfl, rfl⟩ := e
  obtain ⟨a, ha, hr⟩ := h4 (by omega)
  obtain ⟨x, d, k1, k2, k3, k4⟩ := h1.get (j := j.toNat) (by omega)
  have all : ∀ (off : Nat) (v : Value), d[off]? = some v → Rd W' ((a.add (j.toNat * sz)).add off) v := fun off v hv => by
    rw [Addr.add_add]; exact (hr _ v (k4 off v hv)).mono l
  exact ⟨a, ha, x, d, k1, k2, hR _ _ _ _ l k3, all, all⟩

structure TypS where
  space : List UInt8
  rel : List UInt8
  deriving DecidableEq
structure NodeS where
  kind : Int
  rel : List UInt8
  thn : List UInt8
  a : Int
  b : Int
  deriving DecidableEq
structure RelS where
  name : List UInt8
  types : List TypS
  nodes : List NodeS
  deriving DecidableEq
structure SpaceS where
  name : List UInt8
  rels : List RelS
  deriving DecidableEq
structure ScopeS where
  name : List UInt8
  object : RefS
  rel : List UInt8
  deriving DecidableEq
structure ConfS where
  spaces : List SpaceS
  scopes : List ScopeS
  deriving DecidableEq
def typC (t : TypS) : List Value := [strV t.space, strV t.rel]
def nodeC (n : NodeS) : List Value := [.int .i64 n.kind, strV n.rel, strV n.thn, .int .i64 n.a, .int .i64 n.b]
def scopeC (s : ScopeS) : List Value := [strV s.name, strV s.object.space, strV s.object.id, strV s.rel]
def RelR (W : PW) (r : RelS) (c : List Value) : Prop := ∃ tv nv, c = [strV r.name, tv, nv] ∧ RP typC W tv r.types ∧ RP nodeC W nv r.nodes
def SpR (W : PW) (s : SpaceS) (c : List Value) : Prop := ∃ rv, c = [strV s.name, rv] ∧ RL RelR 3 W rv s.rels
def ConfR (W : PW) (x : ConfS) (c : List Value) : Prop := ∃ sv kv, c = [sv, kv] ∧ RL SpR 2 W sv x.spaces ∧ RP scopeC W kv x.scopes
theorem RelR.mono (W W' : PW) (r : RelS) (c : List Value) (l : W.Le W') (h : RelR W r c) : RelR W' r c := let ⟨tv, nv, e, h1, h2⟩ := h; ⟨tv, nv, e, h1.mono l, h2.mono l⟩
theorem SpR.mono (W W' : PW) (s : SpaceS) (c : List Value) (l : W.Le W') (h : SpR W s c) : SpR W' s c := let ⟨rv, e, h1⟩ := h; ⟨rv, e, h1.mono RelR.mono l⟩
theorem ConfR.mono (W W' : PW) (x : ConfS) (c : List Value) (l : W.Le W') (h : ConfR W x c) : ConfR W' x c := let ⟨sv, kv, e, h1, h2⟩ := h; ⟨sv, kv, e, h1.mono SpR.mono l, h2.mono l⟩

end Go.Proofs.YtcgbcbdgjhnlaaaGreat

namespace Go.Proofs.YtcgbcbdgjhnlaaaGreat

def isT (s : List UInt8) (x : Tok) : Bool := !decide (x.k = 0) && (!decide (x.k = 2) && decide (x.t = s))
def takeB (s : List UInt8) : List Tok → Bool
  | x :: _ => isT s x
  | [] => false
def wordT (x : Tok) : Bool := decide (x.k = 1) && wordS x.t
/-- What the parser holds. -/
structure PS where
  l : List Tok
  f : Bool
def PS.bad : PS := ⟨[], true⟩
def PS.tail (p : PS) : PS := ⟨p.l.tail, p.f⟩
def tkS (s : List UInt8) (p : PS) : PS := if takeB s p.l then p.tail else p
def mustS (s : List UInt8) (p : PS) : PS := if takeB s p.l then p.tail else PS.bad
def wdB (p : PS) : Bool := match p.l with | x :: _ => wordT x | [] => false
def wdV (p : PS) : List UInt8 := match p.l with | x :: _ => if wordT x then x.t else [] | [] => []
def wdS (p : PS) : PS := if wdB p then p.tail else PS.bad
def kThis : List UInt8 := [116, 104, 105, 115]
def kUser : List UInt8 := [117, 115, 101, 114]
def kindV (p : PS) : TypS := if takeB kUser p.l then ⟨[], []⟩ else ⟨wdV p, wdV (mustS [35] (wdS p))⟩
def kindS (p : PS) : PS := if takeB kUser p.l then p.tail else wdS (mustS [35] (wdS p))
def opV (p : PS) : Nat := if takeB [124] p.l then 4 else if takeB [45] p.l then 6 else 0
def opS (p : PS) : PS := if takeB [124] p.l then p.tail else tkS [45] p
abbrev NP := List NodeS × PS
def joinN (k : Nat) (l l' : List NodeS) : List NodeS := l' ++ [⟨k, [], [], (l.length : Int) - 1, (l'.length : Int) - 1⟩]
def facN (ex : List NodeS → PS → NP) (l : List NodeS) (p : PS) : NP :=
  if takeB kThis p.l then (l ++ [⟨1, [], [], 0, 0⟩], p.tail)
  else if takeB [40] p.l then ((ex l p.tail).1, mustS [41] (ex l p.tail).2)
  else if takeB [45, 62] (wdS p).l then (l ++ [⟨3, wdV p, wdV (wdS p).tail, 0, 0⟩], wdS (wdS p).tail)
  else (l ++ [⟨2, wdV p, [], 0, 0⟩], wdS p)
def termL (fac : List NodeS → PS → NP) : Nat → List NodeS → PS → NP
  | 0, l, p => (l, p)
  | m + 1, l, p => if !p.f && takeB [38] p.l then termL fac m (joinN 5 l (fac l p.tail).1) (fac l p.tail).2 else (l, p)
def termN (ex : List NodeS → PS → NP) (l : List NodeS) (p : PS) : NP := termL (facN ex) (facN ex l p).2.l.length (facN ex l p).1 (facN ex l p).2
def exprL (te : List NodeS → PS → NP) : Nat → List NodeS → PS → NP
  | 0, l, p => (l, p)
  | m + 1, l, p => if !decide (opV p = 0) && !(opS p).f then exprL te m (joinN (opV p) l (te l (opS p)).1) (te l (opS p)).2 else (l, opS p)
def exprN : Nat → List NodeS → PS → NP
  | 0, l, p => (l, p)
  | n + 1, l, p => exprL (termN (exprN n)) (termN (exprN n) l p).2.l.length (termN (exprN n) l p).1 (termN (exprN n) l p).2

def sz (l : List NodeS) (p : PS) : Nat := l.length + 2 * p.l.length
theorem tail_len (p : PS) : p.tail.l.length = p.l.length - 1 := by simp [PS.tail]
theorem take_pos {s : List UInt8} {p : PS} (h : takeB s p.l = true) : p.tail.l.length + 1 = p.l.length := by
  rw [tail_len]
  cases hp : p.l with
  | nil => rw [hp] at h; cases h
  | cons x r => simp
theorem must_le (s : List UInt8) (p : PS) : (mustS s p).l.length ≤ p.l.length := by
  unfold mustS; split
  · rw [tail_len]; omega
  · exact Nat.zero_le _
theorem wd_le (p : PS) : (wdS p).l.length ≤ p.l.length := by
  unfold wdS; split
  · rw [tail_len]; omega
  · exact Nat.zero_le _
theorem tk_le (s : List UInt8) (p : PS) : (tkS s p).l.length ≤ p.l.length := by
  unfold tkS; split
  · rw [tail_len]; omega
  · exact Nat.le_refl _
theorem op_le (p : PS) : (opS p).l.length ≤ p.l.length := by
  unfold opS; split
  · rw [tail_len]; omega
  · exact tk_le _ _
theorem op_pos {p : PS} (h : ¬ opV p = 0) : (opS p).l.length + 1 = p.l.length := by
  unfold opV at h; unfold opS
  split at h
  · rename_i h1; rw [if_pos h1]; exact take_pos h1
  · rename_i h1
    rw [if_neg h1]
    split at h
    · rename_i h2; unfold tkS; rw [if_pos h2]; exact take_pos h2
    · exact absurd rfl h
/-- What a part of the parser makes of its input is not too much. -/
def Fit (g : List NodeS → PS → NP) (n : Nat) : Prop := ∀ l p, p.l.length < n → sz (g l p).1 (g l p).2 ≤ sz l p + 1 ∧ (g l p).2.l.length ≤ p.l.length ∧ 1 ≤ (g l p).1.length
theorem fac_fit {ex : List NodeS → PS → NP} {n : Nat} (h : Fit ex n) : Fit (facN ex) (n + 1) := by
  intro l p hp
  unfold facN
  split
  · rename_i h1
    have := take_pos h1
    simp only [sz, List.length_append, List.length_cons, List.length_nil]; omega
  · split
    · rename_i h1
      have h2 := take_pos h1
      obtain ⟨h3, h4, h5⟩ := h l p.tail (by omega)
      have h6 := must_le [41] (ex l p.tail).2
      simp only [sz] at *; omega
    · have h1 := wd_le p
      split
      · rename_i h2
        have h3 := take_pos h2
        have h4 := wd_le (wdS p).tail
        simp only [sz, List.length_append, List.length_cons, List.length_nil]; omega
      · simp only [sz, List.length_append, List.length_cons, List.length_nil]; omega
theorem joinN_len (k : Nat) (l l' : List NodeS) : (joinN k l l').length = l'.length + 1 := by simp [joinN]
theorem termL_fit {fac : List NodeS → PS → NP} {n : Nat} (h : Fit fac n) : ∀ (m : Nat) (l : List NodeS) (p : PS), p.l.length < n + 1 → 1 ≤ l.length → sz (termL fac m l p).1 (termL fac m l p).2 ≤ sz l p ∧ (termL fac m l p).2.l.length ≤ p.l.length ∧ 1 ≤ (termL fac m l p).1.length
  | 0, l, p, _, h1 => ⟨Nat.le_refl _, Nat.le_refl _, h1⟩
  | m + 1, l, p, hp, h1 => by
    simp only [termL]
    split
    · rename_i h2
      simp only [Bool.and_eq_true] at h2
      have h3 := take_pos h2.2
      obtain ⟨h4, h5, h6⟩ := h l p.tail (by omega)
      obtain ⟨h7, h8, h9⟩ := termL_fit h m (joinN 5 l (fac l p.tail).1) (fac l p.tail).2 (by omega) (by rw [joinN_len]; omega)
      refine ⟨?_, by omega, h9⟩
      simp only [sz, joinN_len] at *; omega
    · exact ⟨Nat.le_refl _, Nat.le_refl _, h1⟩
theorem term_fit {ex : List NodeS → PS → NP} {n : Nat} (h : Fit ex n) : Fit (termN ex) (n + 1) := by
  intro l p hp
  obtain ⟨h1, h2, h3⟩ := fac_fit h l p hp
  obtain ⟨h4, h5, h6⟩ := termL_fit (fac_fit h) (facN ex l p).2.l.length (facN ex l p).1 (facN ex l p).2 (by omega) h3
  exact ⟨by unfold termN; omega, by unfold termN; omega, h6⟩
theorem exprL_fit {te : List NodeS → PS → NP} {n : Nat} (h : Fit te n) : ∀ (m : Nat) (l : List NodeS) (p : PS), p.l.length < n + 1 → 1 ≤ l.length → sz (exprL te m l p).1 (exprL te m l p).2 ≤ sz l p ∧ (exprL te m l p).2.l.length ≤ p.l.length ∧ 1 ≤ (exprL te m l p).1.length
  | 0, l, p, _, h1 => ⟨Nat.le_refl _, Nat.le_refl _, h1⟩
  | m + 1, l, p, hp, h1 => by
    simp only [exprL]
    split
    · rename_i h2
      simp only [Bool.and_eq_true, Bool.not_eq_true', decide_eq_false_iff_not] at h2
      have h3 := op_pos h2.1
      obtain ⟨h4, h5, h6⟩ := h l (opS p) (by omega)
      obtain ⟨h7, h8, h9⟩ := exprL_fit h m (joinN (opV p) l (te l (opS p)).1) (te l (opS p)).2 (by omega) (by rw [joinN_len]; omega)
      refine ⟨?_, by omega, h9⟩
      simp only [sz, joinN_len] at *; omega
    · have := op_le p
      exact ⟨by simp only [sz]; omega, this, h1⟩
theorem expr_fit : ∀ n : Nat, Fit (exprN n) n
  | 0, l, p, h => by omega
  | n + 1, l, p, h => by
    have ht := term_fit (expr_fit n)
    obtain ⟨h1, h2, h3⟩ := ht l p h
    obtain ⟨h4, h5, h6⟩ := exprL_fit ht (termN (exprN n) l p).2.l.length (termN (exprN n) l p).1 (termN (exprN n) l p).2 (by omega) h3
    exact ⟨by simp only [exprN]; omega, by simp only [exprN]; omega, by simp only [exprN]; exact h6⟩
end Go.Proofs.YtcgbcbdgjhnlaaaGreat

namespace Go.Proofs.YtcgbcbdgjhnlaaaGreat

def kRelation : List UInt8 := [114, 101, 108, 97, 116, 105, 111, 110]
def kNamespace : List UInt8 := [110, 97, 109, 101, 115, 112, 97, 99, 101]
def kScope : List UInt8 := [115, 99, 111, 112, 101]
def thisN : NodeS := ⟨1, [], [], 0, 0⟩
def typesL : Nat → List TypS → PS → List TypS × PS
  | 0, ts, p => (ts, p)
  | m + 1, ts, p => if takeB [124] p.l then typesL m (ts ++ [kindV p.tail]) (kindS p.tail) else (ts, p)
def typesN (p : PS) : List TypS × PS := if takeB [58] p.l then typesL (kindS p.tail).l.length [kindV p.tail] (kindS p.tail) else ([], p)
def nodesN (p : PS) : NP := if takeB [61] p.l then exprN p.l.length [] p.tail else ([thisN], p)
def relN (p : PS) : RelS × PS := (⟨wdV p, (typesN (wdS p)).1, (nodesN (typesN (wdS p)).2).1⟩, mustS [59] (nodesN (typesN (wdS p)).2).2)
def relsL : Nat → List RelS → PS → List RelS × PS
  | 0, rs, p => (rs, p)
  | m + 1, rs, p => if takeB kRelation p.l then relsL m (rs ++ [(relN p.tail).1]) (relN p.tail).2 else (rs, p)
def spaceN (p : PS) : SpaceS × PS :=
  (⟨wdV p, (relsL (mustS [123] (wdS p)).l.length [] (mustS [123] (wdS p))).1⟩, mustS [125] (relsL (mustS [123] (wdS p)).l.length [] (mustS [123] (wdS p))).2)
def txtOf (p : PS) : List UInt8 := match p.l with | x :: _ => x.t | [] => []
def knd (p : PS) : Nat := match p.l with | x :: _ => x.k | [] => 0
def cutA (s : List UInt8) : List UInt8 × List UInt8 := match cutL 35 s with | some (a, b) => (a, b) | none => (s, [])
def scopeOK (p : PS) : Bool := decide (knd p = 2) && ((refP (cutA (txtOf p)).1).isSome && wordS (cutA (txtOf p)).2)
def scopeN (p : PS) : ScopeS × PS :=
  if scopeOK (mustS [61] (wdS p)) then (⟨wdV p, refM (cutA (txtOf (mustS [61] (wdS p)))).1, (cutA (txtOf (mustS [61] (wdS p)))).2⟩, mustS [59] (mustS [61] (wdS p)).tail)
  else (⟨wdV p, noRef, []⟩, PS.bad)
def confL : Nat → ConfS → PS → ConfS × PS
  | 0, c, p => (c, p)
  | m + 1, c, p => if p.f || p.l.isEmpty then (c, p)
    else if takeB kNamespace p.l then confL m ⟨c.spaces ++ [(spaceN p.tail).1], c.scopes⟩ (spaceN p.tail).2
    else if takeB kScope p.l then confL m ⟨c.spaces, c.scopes ++ [(scopeN p.tail).1]⟩ (scopeN p.tail).2
    else confL m c PS.bad
def confN (p : PS) : ConfS × PS := confL p.l.length ⟨[], []⟩ p

theorem tail_le (p : PS) : p.tail.l.length ≤ p.l.length := by rw [tail_len]; omega
theorem kind_le (p : PS) : (kindS p).l.length ≤ p.l.length := by
  unfold kindS; split
  · exact tail_le p
  · exact Nat.le_trans (wd_le _) (Nat.le_trans (must_le _ _) (wd_le _))
theorem typesL_le : ∀ (m : Nat) (ts : List TypS) (p : PS), (typesL m ts p).2.l.length ≤ p.l.length
  | 0, ts, p => Nat.le_refl _
  | m + 1, ts, p => by
    simp only [typesL]; split
    · exact Nat.le_trans (typesL_le m _ _) (Nat.le_trans (kind_le _) (tail_le p))
    · exact Nat.le_refl _
theorem types_le (p : PS) : (typesN p).2.l.length ≤ p.l.length := by
  unfold typesN; split
  · exact Nat.le_trans (typesL_le _ _ _) (Nat.le_trans (kind_le _) (tail_le p))
  · exact Nat.le_refl _
theorem nodes_le (p : PS) : (nodesN p).2.l.length ≤ p.l.length := by
  unfold nodesN; split
  · rename_i h
    have := take_pos h
    have := (expr_fit p.l.length [] p.tail (by omega)).2.1
    omega
  · exact Nat.le_refl _
theorem rel_le (p : PS) : (relN p).2.l.length ≤ p.l.length := by
  unfold relN
  exact Nat.le_trans (must_le _ _) (Nat.le_trans (nodes_le _) (Nat.le_trans (types_le _) (wd_le p)))
theorem relsL_le : ∀ (m : Nat) (rs : List RelS) (p : PS), (relsL m rs p).2.l.length ≤ p.l.length
  | 0, rs, p => Nat.le_refl _
  | m + 1, rs, p => by
    simp only [relsL]; split
    · exact Nat.le_trans (relsL_le m _ _) (Nat.le_trans (rel_le _) (tail_le p))
    · exact Nat.le_refl _
theorem space_le (p : PS) : (spaceN p).2.l.length ≤ p.l.length := by
  unfold spaceN
  exact Nat.le_trans (must_le _ _) (Nat.le_trans (relsL_le _ _ _) (Nat.le_trans (must_le _ _) (wd_le p)))
theorem scope_le (p : PS) : (scopeN p).2.l.length ≤ p.l.length := by
  unfold scopeN; split
  · exact Nat.le_trans (must_le _ _) (Nat.le_trans (tail_le _) (Nat.le_trans (must_le _ _) (wd_le p)))
  · exact Nat.zero_le _
theorem typesL_stop {ts : List TypS} {p : PS} (h : takeB [124] p.l = false) : ∀ m, typesL m ts p = (ts, p)
  | 0 => rfl
  | m + 1 => by simp only [typesL, h]; (first | done | rfl)
theorem typesL_go {ts : List TypS} {p : PS} (h : takeB [124] p.l = true) {m : Nat} (hm : p.l.length ≤ m) : ∃ m', m = m' + 1 ∧ typesL m ts p = typesL m' (ts ++ [kindV p.tail]) (kindS p.tail) ∧ (kindS p.tail).l.length ≤ m' := by
  have := take_pos h
  have := kind_le p.tail
  obtain ⟨m', rfl⟩ : ∃ m', m = m' + 1 := ⟨m - 1, by omega⟩
  exact ⟨m', rfl, by simp only [typesL, h]; (first | done | rfl), by omega⟩
theorem relsL_stop {rs : List RelS} {p : PS} (h : takeB kRelation p.l = false) : ∀ m, relsL m rs p = (rs, p)
  | 0 => rfl
  | m + 1 => by simp only [relsL, h]; (first | done | rfl)
theorem relsL_go {rs : List RelS} {p : PS} (h : takeB kRelation p.l = true) {m : Nat} (hm : p.l.length ≤ m) : ∃ m', m = m' + 1 ∧ relsL m rs p = relsL m' (rs ++ [(relN p.tail).1]) (relN p.tail).2 ∧ (relN p.tail).2.l.length ≤ m' := by
  have := take_pos h
  have := rel_le p.tail
  obtain ⟨m', rfl⟩ : ∃ m', m = m' + 1 := ⟨m - 1, by omega⟩
  exact ⟨m', rfl, by simp only [relsL, h]; (first | done | rfl), by omega⟩
end Go.Proofs.YtcgbcbdgjhnlaaaGreat

namespace Go.Proofs.YtcgbcbdgjhnlaaaGreat
open Go.RowKit

/-- The parser: its tokens, whether it has failed. -/
def PO (N : Nat) (p : PS) (g : Nat) (W : PW) : Prop :=
  ∃ A c, OwnB W g [.slice A p.l.length c, .bool p.f] ∧ RP (tokC N) W (.slice A p.l.length c) p.l ∧ (p.f = true → p.l = []) ∧ p.l.length ≤ 16384 ∧ ∀ x ∈ p.l, x.t.length ≤ 16384
theorem PO.len {N : Nat} {p : PS} {g : Nat} {W : PW} (h : PO N p g W) : p.l.length ≤ 16384 := by obtain ⟨A, c, _, _, _, h, _⟩ := h; exact h
theorem PO.bad {N : Nat} {p : PS} {g : Nat} {W : PW} (h : PO N p g W) (hf : p.f = true) : p.l = [] := by obtain ⟨A, c, _, _, h, _⟩ := h; exact h hf
def nextC (N : Nat) : List Tok → List Value
  | x :: _ => tokC N x
  | [] => [.int .i64 0, strV [], .int .i64 0]
theorem rfail_x (N : Nat) (p : PS) (g : Nat) (W : PW) (h : PO N p g W) : CallsX Tryz.prog 72 ⟨[.pointer (some ⟨g, 0, none⟩)]⟩ [g] W fun _ W' => PO N PS.bad g W' := by
  obtain ⟨A, c, ho, _⟩ := h
  refine methX hmix Tryz.func72 r72 (by kernel_rfl) ho [] rfl ?_
  exact ret_m1 rfl rfl rfl rfl fun W' _ hw => ⟨none, 0, hw, RP.nil _ _, fun _ => rfl, Nat.zero_le _, fun x hx => by cases hx⟩
theorem rnext_x (N : Nat) (p : PS) (g : Nat) (W : PW) (h : PO N p g W) : CallsX Tryz.prog 95 ⟨[.pointer (some ⟨g, 0, none⟩)]⟩ [g] W fun v W' => v = .agg ⟨nextC N p.l⟩ ∧ PO N p g W' := by
  obtain ⟨A, c, ho, hr, hf, hb⟩ := h
  obtain ⟨toks, f⟩ := p
  dsimp only at ho hr hf hb
  refine methX hmix Tryz.func95 r95 (by kernel_rfl) ho [] rfl ?_
  cases toks with
  | nil => exact ⟨rfl, ret_m1 rfl rfl rfl rfl fun W' l hw => ⟨rfl, A, c, hw, hr.mono l, hf, hb⟩⟩
  | cons x r =>
    refine ⟨rfl, ?_⟩
    obtain ⟨a, rfl, y, hy, _, _, hrd⟩ := hr.at (sz := 3) (tokC_len _) (PW.Le.refl _) (j := 0) ⟨by omega, by simp only [List.length_cons]; omega⟩
    obtain rfl : x = y := Option.some.inj hy
    refine ⟨⟨by omega, by simp only [List.length_cons]; omega⟩, a, rfl, tokC N x, rfl, hrd.o, ?_⟩
    exact ret_m1 rfl rfl rfl rfl fun W' l hw => ⟨rfl, some a, c, hw, hr.mono l, hf, hb⟩
theorem PO.tail {N : Nat} {x : Tok} {r : List Tok} {f : Bool} {g : Nat} {W W' : PW} {A : Option Addr} {c : Nat} (hr : RP (tokC N) W (.slice A (x :: r).length c) (x :: r)) (hf : f = true → x :: r = []) (hb : (x :: r).length ≤ 16384 ∧ ∀ y ∈ x :: r, y.t.length ≤ 16384) (l : W.Le W')
    (hw : OwnB W' g [.slice (if c = 1 then A else A.map (·.add (1 * 3))) ((x :: r).length - 1) (c - 1), .bool f]) : PO N (PS.tail ⟨x :: r, f⟩) g W' := by
  have h := hr.cut (tokC_len _) (l := 1) (m := (x :: r).length) (by simp) (Nat.le_refl _)
  have e : ((x :: r).drop 1).take ((x :: r).length - 1) = r := by simp
  rw [e] at h
  exact ⟨_, _, hw, h.mono l, fun h => (by cases hf h), by have := hb.1; simp only [List.length_cons] at this; show r.length ≤ _; omega, fun y hy => hb.2 y (List.mem_cons_of_mem _ hy)⟩
theorem rtake_x (N : Nat) (s : List UInt8) (p : PS) (g : Nat) (W : PW) (h : PO N p g W) : CallsX Tryz.prog 69 ⟨[.pointer (some ⟨g, 0, none⟩), strV s]⟩ [g] W fun v W' => v = .bool (takeB s p.l) ∧ PO N (tkS s p) g W' := by
  obtain ⟨A, c, ho, hr, hf, hb⟩ := h
  refine methX hmix Tryz.func69 r69 (by kernel_rfl) ho [strV s] rfl ?_
  refine call_m1 rfl rfl rfl rfl k95 (fun g' W1 l1 how => (rnext_x N p g' W1 ⟨A, c, how, hr.mono l1, hf, hb⟩).mono fun v W2 ⟨hv, A2, c2, ho2, hr2, _⟩ l2 => ⟨_, ho2, ?_⟩)
  subst hv
  obtain ⟨toks, f⟩ := p
  dsimp only at hr2 hf hb ho2
  cases toks with
  | nil => exact ⟨rfl, ret_m1 rfl rfl rfl rfl fun W' l hw => ⟨rfl, A2, c2, hw, hr2.mono l, hf, hb⟩⟩
  | cons x r =>
    have no : isT s x = false → ∀ W' : PW, W2.Le W' → OwnB W' g [.slice A2 (x :: r).length c2, .bool f] → Value.bool false = .bool (takeB s (x :: r)) ∧ PO N (tkS s ⟨x :: r, f⟩) g W' := by
      intro h W' l hw
      have e : takeB s (x :: r) = false := h
      refine ⟨by rw [e], ?_⟩
      unfold tkS
      rw [if_neg (by rw [show takeB s (PS.mk (x :: r) f).l = false from h]; exact Bool.false_ne_true)]
      exact ⟨A2, c2, hw, hr2.mono l, hf, hb⟩
    refine ⟨rfl, br_split (fun h0 => ?_) (fun h0 => ?_)⟩
    · have h0 : (x.k : Int) = 0 := h0
      exact ret_m1 rfl rfl rfl rfl fun W' l hw => no (by unfold isT; rw [decide_eq_true (show x.k = 0 by omega)]; (first | done | rfl)) W' l hw
    have h0 : ¬ (x.k : Int) = 0 := h0
    refine ⟨rfl, ?_⟩
    apply br_split
    · intro h2
      have h2 : (x.k : Int) = 2 := h2
      exact ret_m1 rfl rfl rfl rfl fun W' l hw => no (by unfold isT; rw [decide_eq_true (show x.k = 2 by omega)]; simp) W' l hw
    intro h2
    have h2 : ¬ (x.k : Int) = 2 := h2
    apply br_nsplit
    · intro h3
      have h3 : ¬ x.t = s := h3
      exact ret_m1 rfl rfl rfl rfl fun W' l hw => no (by unfold isT; rw [decide_eq_false h3]; simp) W' l hw
    intro h3
    have h3 : x.t = s := h3
    have hy : isT s x = true := by unfold isT; rw [decide_eq_true h3, decide_eq_false (show ¬ x.k = 0 by omega), decide_eq_false (show ¬ x.k = 2 by omega)]; (first | done | rfl)
    obtain ⟨A3, c3, e3, hc1, hc2⟩ := hr2.form
    simp only [Value.slice.injEq] at e3
    obtain ⟨rfl, _, rfl⟩ := e3
    refine ⟨⟨by omega, by show (1 : Int) ≤ (x :: r).length; simp only [List.length_cons]; omega, by show ((x :: r).length : Int) ≤ c2; omega⟩, ?_⟩
    refine ret_m1 rfl rfl rfl rfl fun W' l hw => ⟨?_, ?_⟩
    · rw [show takeB s (x :: r) = true from hy]
    · unfold tkS
      rw [if_pos (show takeB s (PS.mk (x :: r) f).l = true from hy)]
      exact PO.tail hr2 hf hb l hw
theorem rmust_x (N : Nat) (s : List UInt8) (p : PS) (g : Nat) (W : PW) (h : PO N p g W) : CallsX Tryz.prog 97 ⟨[.pointer (some ⟨g, 0, none⟩), strV s]⟩ [g] W fun _ W' => PO N (mustS s p) g W' := by
  obtain ⟨A, c, ho, hr, hf, hb⟩ := h
  refine methX hmix Tryz.func97 r97 (by kernel_rfl) ho [strV s] rfl ?_
  refine call_m1 rfl rfl rfl rfl k69 (fun g' W1 l1 how => (rtake_x N s p g' W1 ⟨A, c, how, hr.mono l1, hf, hb⟩).mono fun v W2 ⟨hv, A2, c2, ho2, hr2, hf2, hb2⟩ l2 => ⟨_, ho2, ?_⟩)
  cases htb : takeB s p.l with
  | true =>
    rw [htb] at hv; subst hv
    have e : mustS s p = tkS s p := by unfold mustS tkS; rw [htb]; (first | done | rfl)
    rw [e]
    exact ret_m1 rfl rfl rfl rfl fun W' l hw => ⟨A2, c2, hw, hr2.mono l, hf2, hb2⟩
  | false =>
    rw [htb] at hv; subst hv
    have e : mustS s p = PS.bad := by unfold mustS; rw [htb]; (first | done | rfl)
    rw [e]
    refine call_m1 rfl rfl rfl rfl k72 (fun g' W1 l1 how => (rfail_x N (tkS s p) g' W1 ⟨A2, c2, how, hr2.mono l1, hf2, hb2⟩).mono fun v W3 ⟨A3, c3, ho3, hr3, hf3, hb3⟩ l2 => ⟨_, ho3, ?_⟩)
    exact ret_m1 rfl rfl rfl rfl fun W' l hw => ⟨A3, c3, hw, hr3.mono l, hf3, hb3⟩
theorem rword_x (N : Nat) (p : PS) (g : Nat) (W : PW) (h : PO N p g W) : CallsX Tryz.prog 96 ⟨[.pointer (some ⟨g, 0, none⟩)]⟩ [g] W fun v W' => v = strV (wdV p) ∧ PO N (wdS p) g W' := by
  obtain ⟨A, c, ho, hr, hf, hb⟩ := h
  refine methX hmix Tryz.func96 r96 (by kernel_rfl) ho [] rfl ?_
  refine call_m1 rfl rfl rfl rfl k95 (fun g' W1 l1 how => (rnext_x N p g' W1 ⟨A, c, how, hr.mono l1, hf, hb⟩).mono fun v W2 ⟨hv, A2, c2, ho2, hr2, _⟩ l2 => ⟨_, ho2, ?_⟩)
  subst hv
  have bad : wdB p = false → wdV p = [] ∧ wdS p = PS.bad := by
    intro h
    refine ⟨?_, by unfold wdS; rw [h]; (first | done | rfl)⟩
    unfold wdB at h; unfold wdV
    split at h
    · rw [h]; (first | done | rfl)
    · rfl
  obtain ⟨toks, f⟩ := p
  dsimp only at hr2 hf hb ho2
  cases toks with
  | nil =>
    have hw : wdB ⟨[], f⟩ = false := rfl
    obtain ⟨e1, e2⟩ := bad hw
    rw [e1, e2]
    refine ⟨rfl, ?_⟩
    refine call_m1 rfl rfl rfl rfl k72 (fun g' W1 l1 how => (rfail_x N _ g' W1 ⟨A2, c2, how, hr2.mono l1, hf, hb⟩).mono fun v W3 ⟨A3, c3, ho3, hr3, hf3, hb3⟩ l2 => ⟨_, ho3, ?_⟩)
    exact ret_m1 rfl rfl rfl rfl fun W' l hw => ⟨rfl, A3, c3, hw, hr3.mono l, hf3, hb3⟩
  | cons x r =>
    have hxt := hb.2 x (List.mem_cons_self ..)
    have hwx : wdB ⟨x :: r, f⟩ = wordT x := rfl
    refine ⟨rfl, br_nsplit (fun h1 => ?_) (fun h1 => ?_)⟩
    · have h1 : ¬ (x.k : Int) = 1 := h1
      obtain ⟨e1, e2⟩ := bad (by rw [hwx]; unfold wordT; rw [decide_eq_false (by omega)]; (first | done | rfl))
      rw [e1, e2]
      refine call_m1 rfl rfl rfl rfl k72 (fun g' W1 l1 how => (rfail_x N _ g' W1 ⟨A2, c2, how, hr2.mono l1, hf, hb⟩).mono fun v W3 ⟨A3, c3, ho3, hr3, hf3, hb3⟩ l2 => ⟨_, ho3, ?_⟩)
      exact ret_m1 rfl rfl rfl rfl fun W' l hw => ⟨rfl, A3, c3, hw, hr3.mono l, hf3, hb3⟩
    have h1 : (x.k : Int) = 1 := h1
    refine call_v rfl (fun W' _ => word_x x.t (by omega) W') (fun W3 v W4 l3 l4 hv => ?_)
    cases hws : wordS x.t with
    | false =>
      rw [hws] at hv; subst hv
      obtain ⟨e1, e2⟩ := bad (by rw [hwx]; unfold wordT; rw [hws, Bool.and_false])
      rw [e1, e2]
      refine call_m1 rfl rfl rfl rfl k72 (fun g' W1 l1 how => (rfail_x N _ g' W1 ⟨A2, c2, how, hr2.mono (l3.trans (l4.trans l1)), hf, hb⟩).mono fun v W3 ⟨A3, c3, ho3, hr3, hf3, hb3⟩ l2 => ⟨_, ho3, ?_⟩)
      exact ret_m1 rfl rfl rfl rfl fun W' l hw => ⟨rfl, A3, c3, hw, hr3.mono l, hf3, hb3⟩
    | true =>
      rw [hws] at hv; subst hv
      have hy : wordT x = true := by unfold wordT; rw [hws, decide_eq_true (show x.k = 1 by omega)]; (first | done | rfl)
      have hyb : wdB ⟨x :: r, f⟩ = true := by rw [hwx, hy]
      obtain ⟨A3, c3, e3, hc1, hc2⟩ := hr2.form
      simp only [Value.slice.injEq] at e3
      obtain ⟨rfl, _, rfl⟩ := e3
      refine ⟨⟨by omega, by show (1 : Int) ≤ (x :: r).length; simp only [List.length_cons]; omega, by show ((x :: r).length : Int) ≤ c2; omega⟩, ?_⟩
      refine ret_m1 rfl rfl rfl rfl fun W' l hw => ⟨?_, ?_⟩
      · show strV x.t = strV (if wordT x then x.t else [])
        rw [hy]; (first | done | rfl)
      · unfold wdS
        rw [if_pos hyb]
        exact PO.tail hr2 hf hb (l3.trans (l4.trans l)) hw
theorem rkind_x (N : Nat) (p : PS) (g : Nat) (W : PW) (h : PO N p g W) : CallsX Tryz.prog 106 ⟨[.pointer (some ⟨g, 0, none⟩)]⟩ [g] W fun v W' => v = .agg ⟨typC (kindV p)⟩ ∧ PO N (kindS p) g W' := by
  obtain ⟨A, c, ho, hr, hf, hb⟩ := h
  refine methX hmix Tryz.func106 r106 (by kernel_rfl) ho [] rfl ?_
  refine call_m1 rfl rfl rfl rfl k69 (fun g' W1 l1 how => (rtake_x N kUser p g' W1 ⟨A, c, how, hr.mono l1, hf, hb⟩).mono fun v W2 ⟨hv, A2, c2, ho2, hr2, hf2, hb2⟩ l2 => ⟨_, ho2, ?_⟩)
  cases htb : takeB kUser p.l with
  | true =>
    rw [htb] at hv; subst hv
    have e1 : kindV p = ⟨[], []⟩ := by unfold kindV; rw [htb]; (first | done | rfl)
    have e2 : kindS p = tkS kUser p := by unfold kindS tkS; rw [htb]; (first | done | rfl)
    rw [e1, e2]
    exact ret_m1 rfl rfl rfl rfl fun W' l hw => ⟨rfl, A2, c2, hw, hr2.mono l, hf2, hb2⟩
  | false =>
    rw [htb] at hv; subst hv
    have e0 : tkS kUser p = p := by unfold tkS; rw [htb]; (first | done | rfl)
    have e1 : kindV p = ⟨wdV p, wdV (mustS [35] (wdS p))⟩ := by unfold kindV; rw [htb]; (first | done | rfl)
    have e2 : kindS p = wdS (mustS [35] (wdS p)) := by unfold kindS; rw [htb]; (first | done | rfl)
    rw [e1, e2]
    rw [e0] at hr2 hf2 hb2 ho2
    refine call_m1 rfl rfl rfl rfl k96 (fun g' W1 l1 how => (rword_x N p g' W1 ⟨A2, c2, e0 ▸ how, hr2.mono l1, hf2, hb2⟩).mono fun v W3 ⟨hv, A3, c3, ho3, hr3, hf3, hb3⟩ l2 => ⟨_, ho3, ?_⟩)
    subst hv
    refine call_m1 rfl rfl rfl rfl k97 (fun g' W1 l1 how => (rmust_x N [35] (wdS p) g' W1 ⟨A3, c3, how, hr3.mono l1, hf3, hb3⟩).mono fun v W4 ⟨A4, c4, ho4, hr4, hf4, hb4⟩ l2 => ⟨_, ho4, ?_⟩)
    refine call_m1 rfl rfl rfl rfl k96 (fun g' W1 l1 how => (rword_x N (mustS [35] (wdS p)) g' W1 ⟨A4, c4, how, hr4.mono l1, hf4, hb4⟩).mono fun v W5 ⟨hv, A5, c5, ho5, hr5, hf5, hb5⟩ l2 => ⟨_, ho5, ?_⟩)
    subst hv
    exact ret_m1 rfl rfl rfl rfl fun W' l hw => ⟨rfl, A5, c5, hw, hr5.mono l, hf5, hb5⟩
theorem rop_x (N : Nat) (p : PS) (g : Nat) (W : PW) (h : PO N p g W) : CallsX Tryz.prog 111 ⟨[.pointer (some ⟨g, 0, none⟩)]⟩ [g] W fun v W' => v = .int .i64 (opV p : Nat) ∧ PO N (opS p) g W' := by
  obtain ⟨A, c, ho, hr, hf, hb⟩ := h
  refine methX hmix Tryz.func111 r111 (by kernel_rfl) ho [] rfl ?_
  refine call_m1 rfl rfl rfl rfl k69 (fun g' W1 l1 how => (rtake_x N [124] p g' W1 ⟨A, c, how, hr.mono l1, hf, hb⟩).mono fun v W2 ⟨hv, A2, c2, ho2, hr2, hf2, hb2⟩ l2 => ⟨_, ho2, ?_⟩)
  cases htb : takeB [124] p.l with
  | true =>
    rw [htb] at hv; subst hv
    have e1 : opV p = 4 := by unfold opV; rw [htb]; (first | done | rfl)
    have e2 : opS p = tkS [124] p := by unfold opS tkS; rw [htb]; (first | done | rfl)
    rw [e1, e2]
    exact ret_m1 rfl rfl rfl rfl fun W' l hw => ⟨rfl, A2, c2, hw, hr2.mono l, hf2, hb2⟩
  | false =>
    rw [htb] at hv; subst hv
    have e0 : tkS [124] p = p := by unfold tkS; rw [htb]; (first | done | rfl)
    have e1 : opV p = if takeB [45] p.l then 6 else 0 := by unfold opV; rw [htb]; (first | done | rfl)
    have e2 : opS p = tkS [45] p := by unfold opS; rw [htb]; (first | done | rfl)
    rw [e1, e2]
    rw [e0] at hr2 hf2 hb2
    refine call_m1 rfl rfl rfl rfl k69 (fun g' W1 l1 how => (rtake_x N [45] p g' W1 ⟨A2, c2, e0 ▸ how, hr2.mono l1, hf2, hb2⟩).mono fun v W3 ⟨hv, A3, c3, ho3, hr3, hf3, hb3⟩ l2 => ⟨_, ho3, ?_⟩)
    cases htc : takeB [45] p.l <;> rw [htc] at hv <;> subst hv <;> exact ret_m1 rfl rfl rfl rfl fun W' l hw => ⟨rfl, A3, c3, hw, hr3.mono l, hf3, hb3⟩
end Go.Proofs.YtcgbcbdgjhnlaaaGreat

namespace Go.Proofs.YtcgbcbdgjhnlaaaGreat
open Go.RowKit

def nodesO (v : Value) (l : List NodeS) : Own := ⟨v, 100, 5, l.length, (l.map nodeC).flatten⟩
theorem nodeC_one (n : NodeS) : ∀ u ∈ nodeC n, u.oneCell' = true := by
  intro u hu
  simp only [nodeC, List.mem_cons, List.not_mem_nil, or_false] at hu
  rcases hu with rfl | rfl | rfl | rfl | rfl <;> rfl
theorem nodesO_snoc (A : Option Addr) (c : Nat) (l : List NodeS) (x : NodeS) : nodesO (.slice A (l.length + 1) c) (l ++ [x]) = ⟨.slice A (l.length + 1) c, 100, 5, l.length + 1, (l.map nodeC).flatten ++ nodeC x⟩ := by
  unfold nodesO; rw [List.length_append, flat_snoc]; (first | done | rfl)
theorem own_snoc {xs : List Nat} {n₀ : Nat} {W : PW} {A : Option Addr} {c : Nat} {l : List NodeS} {x : NodeS} (h : OwnS xs n₀ W ⟨.slice A (l.length + 1) c, 100, 5, l.length + 1, (l.map nodeC).flatten ++ nodeC x⟩) : OwnS xs n₀ W (nodesO (.slice A (l.length + 1) c) (l ++ [x])) := by
  rw [nodesO_snoc]; exact h
theorem maxLen_big : (200000 : Nat) ≤ maxLen := by decide
/-- A part of the parser: it is lent the parser and the nodes. -/
def ExC (fid : FuncId) (N : Nat) (h : List NodeS → PS → NP) (n : Nat) : Prop := ∀ (l : List NodeS) (p : PS) (lv : Value) (g : Nat) (W : PW), p.l.length < n → sz l p ≤ 60000 → (∃ A c, lv = .slice A l.length c) → PO N p g W → OwnS lv.ownBlock.toList W.w.heap.size W (nodesO lv l) → g ∉ lv.ownBlock.toList →
  CallsX Tryz.prog fid ⟨[.pointer (some ⟨g, 0, none⟩), lv]⟩ (g :: lv.ownBlock.toList) W fun v W' => PO N (h l p).2 g W' ∧ OwnS lv.ownBlock.toList W.w.heap.size W' (nodesO v (h l p).1) ∧ ∃ A c, v = .slice A (h l p).1.length c
theorem joined_x (l : List NodeS) (hl : l.length ≤ 100000) (lv : Value) (hlv : ∃ A c, lv = .slice A l.length c) (k : Nat) (a : Int) (W : PW) (ho : OwnS lv.ownBlock.toList W.w.heap.size W (nodesO lv l)) :
    CallsX Tryz.prog 112 ⟨[lv, .int .i64 k, .int .i64 a]⟩ lv.ownBlock.toList W fun v W' => OwnS lv.ownBlock.toList W.w.heap.size W' (nodesO v (l ++ [⟨k, [], [], a, (l.length : Int) - 1⟩])) ∧ ∃ A c, v = .slice A (l.length + 1) c := by
  obtain ⟨A, c, rfl⟩ := hlv
  refine ownX (o := nodesO (.slice A l.length c) l) hmix Tryz.func112 r112 (by kernel_rfl) ho [.slice A l.length c, .int .i64 k, .int .i64 a] rfl ?_
  have hmax := maxLen_big
  refine ⟨rfl, _, (i64_in ((l.length : Int) - 1) ⟨by omega, by omega⟩).symm, rfl, .inl fun b W5 _ hr => ⟨0, _, nodeC ⟨k, [], [], a, (l.length : Int) - 1⟩, rfl, rfl, rfl, rfl, rfl, nodeC_one _, fun _ => ⟨_, rfl, hr.o⟩, by show l.length + 1 ≤ maxLen; omega, by show (l.length + 1) * 56 ≤ 140737488355328; omega, rfl, @fun A' c' _ => ?_⟩⟩
  refine ret_own (i := 0) rfl rfl rfl fun W' l' hw => ⟨?_, A', c', rfl⟩
  exact own_snoc (l := l) hw
theorem tk_yes {s : List UInt8} {p : PS} (h : takeB s p.l = true) : tkS s p = p.tail := by unfold tkS; rw [h]; (first | done | rfl)
theorem tk_no {s : List UInt8} {p : PS} (h : takeB s p.l = false) : tkS s p = p := by unfold tkS; rw [h]; (first | done | rfl)
set_option maxHeartbeats 2000000 in
theorem factor_x {N n : Nat} {ex : List NodeS → PS → NP} (hex : ExC 107 N ex n) : ExC 114 N (facN ex) (n + 1) := by
  intro l p lv g W hp hsz ⟨A0, c0, hlv⟩ ⟨A, c, ho, hr, hf, hb⟩ hown hne
  subst hlv
  have hmax := maxLen_big
  have hll : l.length ≤ 60000 := by unfold sz at hsz; omega
  refine methOX (o := nodesO (.slice A0 l.length c0) l) hmix Tryz.func114 r114 (by kernel_rfl) ho hown hne [.slice A0 l.length c0] rfl ?_
  refine call_m1 rfl rfl rfl rfl k69 (fun g' W1 l1 how => (rtake_x N kThis p g' W1 ⟨A, c, how, hr.mono l1, hf, hb⟩).mono fun v W2 ⟨hv, A2, c2, ho2, hr2, hf2, hb2⟩ l2 => ⟨_, ho2, ?_⟩)
  cases h1 : takeB kThis p.l with
  | true =>
    rw [h1] at hv; subst hv
    have e : facN ex l p = (l ++ [⟨1, [], [], 0, 0⟩], p.tail) := by unfold facN; rw [if_pos h1]
    rw [e]
    refine ⟨rfl, .inl fun b W5 l5 hrb => ⟨0, _, nodeC ⟨1, [], [], 0, 0⟩, rfl, rfl, rfl, rfl, rfl, nodeC_one _, fun _ => ⟨_, rfl, hrb.o⟩, by show l.length + 1 ≤ maxLen; omega, by show (l.length + 1) * 56 ≤ 140737488355328; omega, rfl, @fun A' c' _ => ?_⟩⟩
    refine ret_m1own (i := 0) rfl rfl rfl rfl rfl rfl fun W' l' hwb hwo => ⟨?_, ?_, A', c', ?_⟩
    · rw [← tk_yes h1]
      exact ⟨A2, c2, hwb, hr2.mono (l5.trans l'), hf2, hb2⟩
    · exact own_snoc (l := l) hwo
    · rw [List.length_append]; (first | done | rfl)
  | false =>
    rw [h1] at hv; subst hv
    rw [tk_no h1] at hr2 hf2 hb2
    refine call_m1 rfl rfl rfl rfl k69 (fun g' W1 l1 how => (rtake_x N [40] p g' W1 ⟨A2, c2, (tk_no h1) ▸ how, hr2.mono l1, hf2, hb2⟩).mono fun v W3 ⟨hv, A3, c3, ho3, hr3, hf3, hb3⟩ l3 => ⟨_, ho3, ?_⟩)
    cases h2 : takeB [40] p.l with
    | true =>
      rw [h2] at hv; subst hv
      have e : facN ex l p = ((ex l p.tail).1, mustS [41] (ex l p.tail).2) := by unfold facN; rw [if_neg (by rw [h1]; exact Bool.false_ne_true), if_pos h2]
      have hpos := take_pos h2
      rw [e]
      refine call_m1O (i := 0) rfl rfl rfl rfl rfl rfl k107 (fun g' W1 l1 how hown1 hne1 => (hex l (tkS [40] p) _ g' W1 (by rw [tk_yes h2]; omega) (by rw [tk_yes h2]; unfold sz at *; omega) ⟨A0, c0, rfl⟩ ⟨A3, c3, how, hr3.mono l1, hf3, hb3⟩ hown1 hne1).mono fun v W4 ⟨⟨A4, c4, ho4, hr4, hf4, hb4⟩, hown4, A5, c5, hv5⟩ l4 => ⟨_, _, ho4, hown4, ?_⟩)
      rw [tk_yes h2] at hr4 hf4 hb4 hv5
      refine call_m1 rfl rfl rfl rfl k97 (fun g' W1 l1 how => (rmust_x N [41] (ex l p.tail).2 g' W1 ⟨A4, c4, (tk_yes h2) ▸ how, hr4.mono l1, hf4, hb4⟩).mono fun v' W6 ⟨A6, c6, ho6, hr6, hf6, hb6⟩ l6 => ⟨_, ho6, ?_⟩)
      refine ret_m1own (i := 0) rfl rfl rfl rfl rfl rfl fun W' l' hwb hwo => ⟨⟨A6, c6, hwb, hr6.mono l', hf6, hb6⟩, ?_, A5, c5, hv5⟩
      rw [← tk_yes h2]; exact hwo
    | false =>
      rw [h2] at hv; subst hv
      rw [tk_no h2] at hr3 hf3 hb3
      refine call_m1 rfl rfl rfl rfl k96 (fun g' W1 l1 how => (rword_x N p g' W1 ⟨A3, c3, (tk_no h2) ▸ how, hr3.mono l1, hf3, hb3⟩).mono fun v W4 ⟨hv, A4, c4, ho4, hr4, hf4, hb4⟩ l4 => ⟨_, ho4, ?_⟩)
      subst hv
      refine call_m1 rfl rfl rfl rfl k69 (fun g' W1 l1 how => (rtake_x N [45, 62] (wdS p) g' W1 ⟨A4, c4, how, hr4.mono l1, hf4, hb4⟩).mono fun v W5 ⟨hv, A5, c5, ho5, hr5, hf5, hb5⟩ l5 => ⟨_, ho5, ?_⟩)
      cases h3 : takeB [45, 62] (wdS p).l with
      | true =>
        rw [h3] at hv; subst hv
        have e : facN ex l p = (l ++ [⟨3, wdV p, wdV (wdS p).tail, 0, 0⟩], wdS (wdS p).tail) := by unfold facN; rw [if_neg (by rw [h1]; exact Bool.false_ne_true), if_neg (by rw [h2]; exact Bool.false_ne_true), if_pos h3]
        rw [e]
        refine call_m1 rfl rfl rfl rfl k96 (fun g' W1 l1 how => (rword_x N (tkS [45, 62] (wdS p)) g' W1 ⟨A5, c5, how, hr5.mono l1, hf5, hb5⟩).mono fun v W6 ⟨hv, A6, c6, ho6, hr6, hf6, hb6⟩ l6 => ⟨_, ho6, ?_⟩)
        rw [tk_yes h3] at hv hr6 hf6 hb6
        subst hv
        refine ⟨rfl, .inl fun b W7 l7 hrb => ⟨0, _, nodeC ⟨3, wdV p, wdV (wdS p).tail, 0, 0⟩, rfl, rfl, rfl, rfl, rfl, nodeC_one _, fun _ => ⟨_, rfl, hrb.o⟩, by show l.length + 1 ≤ maxLen; omega, by show (l.length + 1) * 56 ≤ 140737488355328; omega, rfl, @fun A' c' _ => ?_⟩⟩
        refine ret_m1own (i := 0) rfl rfl rfl rfl rfl rfl fun W' l' hwb hwo => ⟨?_, ?_, A', c', ?_⟩
        · rw [tk_yes h3] at hwb
          exact ⟨A6, c6, hwb, hr6.mono (l7.trans l'), hf6, hb6⟩
        · exact own_snoc (l := l) hwo
        · rw [List.length_append]; (first | done | rfl)
      | false =>
        rw [h3] at hv; subst hv
        have e : facN ex l p = (l ++ [⟨2, wdV p, [], 0, 0⟩], wdS p) := by unfold facN; rw [if_neg (by rw [h1]; exact Bool.false_ne_true), if_neg (by rw [h2]; exact Bool.false_ne_true), if_neg (by rw [h3]; exact Bool.false_ne_true)]
        rw [e]
        rw [tk_no h3] at hr5 hf5 hb5
        refine ⟨rfl, .inl fun b W7 l7 hrb => ⟨0, _, nodeC ⟨2, wdV p, [], 0, 0⟩, rfl, rfl, rfl, rfl, rfl, nodeC_one _, fun _ => ⟨_, rfl, hrb.o⟩, by show l.length + 1 ≤ maxLen; omega, by show (l.length + 1) * 56 ≤ 140737488355328; omega, rfl, @fun A' c' _ => ?_⟩⟩
        refine ret_m1own (i := 0) rfl rfl rfl rfl rfl rfl fun W' l' hwb hwo => ⟨?_, ?_, A', c', ?_⟩
        · rw [tk_no h3] at hwb
          exact ⟨A5, c5, hwb, hr5.mono (l7.trans l'), hf5, hb5⟩
        · exact own_snoc (l := l) hwo
        · rw [List.length_append]; (first | done | rfl)
theorem termL_stop {fac : List NodeS → PS → NP} {l : List NodeS} {p : PS} (h : (!p.f && takeB [38] p.l) = false) : ∀ m, termL fac m l p = (l, p)
  | 0 => rfl
  | m + 1 => by simp only [termL, h]; (first | done | rfl)
theorem termL_go {fac : List NodeS → PS → NP} {l : List NodeS} {p : PS} (hf : p.f = false) (h : takeB [38] p.l = true) {m : Nat} (hm : p.l.length ≤ m) : ∃ m', m = m' + 1 ∧ termL fac m l p = termL fac m' (joinN 5 l (fac l p.tail).1) (fac l p.tail).2 ∧ p.tail.l.length ≤ m' := by
  have := take_pos h
  obtain ⟨m', rfl⟩ : ∃ m', m = m' + 1 := ⟨m - 1, by omega⟩
  refine ⟨m', rfl, ?_, by omega⟩
  simp only [termL, hf, h]; (first | done | rfl)
structure TS where
  l : List NodeS
  p : PS
  A : Option Addr
  c : Nat
  lv : Value
set_option maxHeartbeats 2000000 in
theorem term_x {N n : Nat} {ex : List NodeS → PS → NP} (hfac : ExC 114 N (facN ex) (n + 1)) (hfit : Fit (facN ex) (n + 1)) : ExC 110 N (termN ex) (n + 1) := by
  intro l p lv g W hp hsz ⟨A0, c0, hlv⟩ ⟨A, c, ho, hr, hf, hb⟩ hown hne
  subst hlv
  have hmax := maxLen_big
  have hll : l.length ≤ 60000 := by unfold sz at hsz; omega
  refine methOX (o := nodesO (.slice A0 l.length c0) l) hmix Tryz.func110 r110 (by kernel_rfl) ho hown hne [.slice A0 l.length c0] rfl ?_
  refine call_m1O (i := 0) rfl rfl rfl rfl rfl rfl k114 (fun g' W1 l1 how hown1 hne1 => (hfac l p _ g' W1 hp hsz ⟨A0, c0, rfl⟩ ⟨A, c, how, hr.mono l1, hf, hb⟩ hown1 hne1).mono fun v W2 ⟨⟨A2, c2, ho2, hr2, hf2, hb2⟩, hown2, A3, c3, hv3⟩ l2 => ⟨_, _, ho2, hown2, ?_⟩)
  obtain ⟨k1, k2, k3⟩ := hfit l p hp
  refine ⟨TS, fun t => [(1, .v t.lv)], fun t => [[.v (.slice t.A t.p.l.length t.c), .v (.bool t.p.f)]], fun t => [nodesO t.lv t.l],
    fun t W => (∃ A c, t.lv = .slice A t.l.length c) ∧ RP (tokC N) W (.slice t.A t.p.l.length t.c) t.p.l ∧ (t.p.f = true → t.p.l = []) ∧ (t.p.l.length ≤ 16384 ∧ ∀ x ∈ t.p.l, x.t.length ≤ 16384) ∧ t.p.l.length ≤ p.l.length ∧ sz t.l t.p ≤ sz l p + 1 ∧ ∃ m, t.p.l.length ≤ m ∧ termN ex l p = termL (facN ex) m t.l t.p,
    fun t => t.p.l.length, ⟨(facN ex l p).1, (facN ex l p).2, A2, c2, v⟩,
    all_sl ⟨rfl, trivial⟩, rfl, ole_refl _, ⟨⟨A3, c3, hv3⟩, hr2, hf2, hb2, k2, k1, _, Nat.le_refl _, rfl⟩, loopOK (fun _ => ⟨⟨trivial, rfl⟩, trivial⟩) (fun _ => rfl) (fun _ => rfl), ?_⟩
  rintro ⟨l3, ⟨toks, f⟩, A4, c4, lv4⟩ W3 l3w ⟨⟨A5, c5, hlv⟩, hr3, hf3, hb3, hle3, hsz3, m, hm, hres⟩ fr
  dsimp only at hlv hr3 hf3 hb3 hle3 hsz3 hm hres
  subst hlv
  cases f with
  | true =>
    rw [termL_stop rfl] at hres
    refine ret_m1own (i := 0) rfl rfl rfl rfl rfl rfl fun W' l' hwb hwo => ?_
    rw [hres]
    exact ⟨⟨A4, c4, hwb, hr3.mono l', hf3, hb3⟩, hwo, A5, c5, rfl⟩
  | false =>
    refine call_m1 rfl rfl rfl rfl k69 (fun g' W1 l1 how => (rtake_x N [38] ⟨toks, false⟩ g' W1 ⟨A4, c4, how, hr3.mono l1, hf3, hb3⟩).mono fun v W5 ⟨hv, A6, c6, ho6, hr6, hf6, hb6⟩ l5 => ⟨_, ho6, ?_⟩)
    cases h1 : takeB [38] toks with
    | false =>
      rw [show takeB [38] (PS.mk toks false).l = false from h1] at hv; subst hv
      rw [termL_stop (by show (true && takeB [38] toks) = false; rw [h1]; (first | done | rfl))] at hres
      refine ret_m1own (i := 0) rfl rfl rfl rfl rfl rfl fun W' l' hwb hwo => ?_
      rw [hres]
      exact ⟨(tk_no (p := ⟨toks, false⟩) h1) ▸ ⟨A6, c6, hwb, hr6.mono l', hf6, hb6⟩, hwo, A5, c5, rfl⟩
    | true =>
      rw [show takeB [38] (PS.mk toks false).l = true from h1] at hv; subst hv
      obtain ⟨m', rfl, hgo, hm'⟩ := termL_go (fac := facN ex) (l := l3) (p := ⟨toks, false⟩) rfl h1 hm
      rw [hgo] at hres
      have hpos := take_pos (p := ⟨toks, false⟩) h1
      have hl3 : l3.length ≤ 60001 := by unfold sz at hsz hsz3; omega
      dsimp only at hpos
      obtain ⟨q1, q2, q3⟩ := hfit l3 (PS.tail ⟨toks, false⟩) (by omega)
      refine ⟨rfl, _, (i64_in ((l3.length : Int) - 1) ⟨by omega, by omega⟩).symm, ?_⟩
      refine call_m1O (i := 0) rfl rfl rfl rfl rfl rfl k114 (fun g' W1 l1 how hown1 hne1 => (hfac l3 (tkS [38] ⟨toks, false⟩) _ g' W1 (by rw [tk_yes (p := ⟨toks, false⟩) h1]; omega) (by rw [tk_yes (p := ⟨toks, false⟩) h1]; unfold sz at *; dsimp only at *; omega) ⟨A5, c5, rfl⟩ ⟨A6, c6, how, hr6.mono l1, hf6, hb6⟩ hown1 hne1).mono fun v W7 ⟨⟨A8, c8, ho8, hr8, hf8, hb8⟩, hown8, A9, c9, hv9⟩ l7 => ⟨_, _, ho8, hown8, ?_⟩)
      rw [← tk_yes (p := ⟨toks, false⟩) h1] at hres q1 q2 q3 hpos hm'
      refine call_O (i := 0) rfl rfl rfl k112 (fun W1 l1 hown1 => (joined_x (facN ex l3 (tkS [38] ⟨toks, false⟩)).1 (by unfold sz at *; dsimp only at *; omega) _ ⟨A9, c9, hv9⟩ 5 ((l3.length : Int) - 1) W1 hown1).mono fun v W10 ⟨hown10, A11, c11, hv11⟩ l10 => ⟨_, hown10, ?_⟩)
      refine ⟨⟨joinN 5 l3 (facN ex l3 (tkS [38] ⟨toks, false⟩)).1, (facN ex l3 (tkS [38] ⟨toks, false⟩)).2, A8, c8, v⟩, all_sl ⟨rfl, trivial⟩, rfl, ole_refl _, ⟨⟨A11, c11, ?_⟩, hr8.mono (l1.trans l10), hf8, hb8, ?_, ?_, m', ?_, hres⟩, ?_⟩
      · rw [hv11, joinN_len]
      · dsimp only; omega
      · simp only [sz, joinN_len] at *; omega
      · dsimp only; omega
      · dsimp only; omega
theorem br_nbool {b : Bool} {X Y : Prop} (h1 : b = true → Y) (h2 : b = false → X) : Branch X Y (!b) := by
  cases b
  · exact h2 rfl
  · exact h1 rfl
theorem op_nil {p : PS} (h : p.l = []) : opV p = 0 ∧ opS p = p := by
  unfold opV opS tkS
  rw [h]; exact ⟨rfl, rfl⟩
theorem exprL_stop {te : List NodeS → PS → NP} {l : List NodeS} {p : PS} (h : opV p = 0 ∨ (opS p).f = true) : ∀ m, p.l.length ≤ m → exprL te m l p = (l, opS p)
  | 0, hm => by
    have : p.l = [] := List.eq_nil_of_length_eq_zero (by omega)
    rw [(op_nil this).2]; (first | done | rfl)
  | m + 1, _ => by
    simp only [exprL]
    rcases h with h | h
    · rw [decide_eq_true h]; (first | done | rfl)
    · rw [h]; simp
theorem exprL_go {te : List NodeS → PS → NP} {l : List NodeS} {p : PS} (h : ¬ opV p = 0) (hf : (opS p).f = false) {m : Nat} (hm : p.l.length ≤ m) : ∃ m', m = m' + 1 ∧ exprL te m l p = exprL te m' (joinN (opV p) l (te l (opS p)).1) (te l (opS p)).2 ∧ (opS p).l.length ≤ m' := by
  have := op_pos h
  obtain ⟨m', rfl⟩ : ∃ m', m = m' + 1 := ⟨m - 1, by omega⟩
  refine ⟨m', rfl, ?_, by omega⟩
  simp only [exprL, decide_eq_false h, hf]; (first | done | rfl)
structure ES where
  l : List NodeS
  p : PS
  A : Option Addr
  c : Nat
  lv : Value
set_option maxHeartbeats 2000000 in
theorem expr_x {N n : Nat} {te : List NodeS → PS → NP} (hte : ExC 110 N te (n + 1)) (hfit : Fit te (n + 1)) : ExC 107 N (fun l p => exprL te (te l p).2.l.length (te l p).1 (te l p).2) (n + 1) := by
  intro l p lv g W hp hsz ⟨A0, c0, hlv⟩ ⟨A, c, ho, hr, hf, hb⟩ hown hne
  subst hlv
  have hmax := maxLen_big
  have hll : l.length ≤ 60000 := by unfold sz at hsz; omega
  refine methOX (o := nodesO (.slice A0 l.length c0) l) hmix Tryz.func107 r107 (by kernel_rfl) ho hown hne [.slice A0 l.length c0] rfl ?_
  refine call_m1O (i := 0) rfl rfl rfl rfl rfl rfl k110 (fun g' W1 l1 how hown1 hne1 => (hte l p _ g' W1 hp hsz ⟨A0, c0, rfl⟩ ⟨A, c, how, hr.mono l1, hf, hb⟩ hown1 hne1).mono fun v W2 ⟨⟨A2, c2, ho2, hr2, hf2, hb2⟩, hown2, A3, c3, hv3⟩ l2 => ⟨_, _, ho2, hown2, ?_⟩)
  obtain ⟨k1, k2, k3⟩ := hfit l p hp
  refine call_m1 rfl rfl rfl rfl k111 (fun g' W1 l1 how => (rop_x N (te l p).2 g' W1 ⟨A2, c2, how, hr2.mono l1, hf2, hb2⟩).mono fun v' W5 ⟨hv, A6, c6, ho6, hr6, hf6, hb6⟩ l5 => ⟨_, ho6, ?_⟩)
  subst hv
  refine ⟨ES, fun t => [(1, .v t.lv), (5, .v (.int .i64 (opV t.p : Nat)))], fun t => [[.v (.slice t.A (opS t.p).l.length t.c), .v (.bool (opS t.p).f)]], fun t => [nodesO t.lv t.l],
    fun t W => (∃ A c, t.lv = .slice A t.l.length c) ∧ RP (tokC N) W (.slice t.A (opS t.p).l.length t.c) (opS t.p).l ∧ ((opS t.p).f = true → (opS t.p).l = []) ∧ ((opS t.p).l.length ≤ 16384 ∧ ∀ x ∈ (opS t.p).l, x.t.length ≤ 16384) ∧ t.p.l.length ≤ p.l.length ∧ sz t.l t.p ≤ sz l p + 1 ∧ ∃ m, t.p.l.length ≤ m ∧ exprL te (te l p).2.l.length (te l p).1 (te l p).2 = exprL te m t.l t.p,
    fun t => t.p.l.length, ⟨(te l p).1, (te l p).2, A6, c6, v⟩,
    all_sl ⟨rfl, rfl, trivial⟩, rfl, ole_refl _, ⟨⟨A3, c3, hv3⟩, hr6, hf6, hb6, k2, k1, _, Nat.le_refl _, rfl⟩, loopOK (fun _ => ⟨⟨trivial, rfl⟩, ⟨trivial, rfl⟩, trivial⟩) (fun _ => rfl) (fun _ => rfl), ?_⟩
  rintro ⟨l3, q, A4, c4, lv4⟩ W3 l3w ⟨⟨A5, c5, hlv⟩, hr3, hf3, hb3, hle3, hsz3, m, hm, hres⟩ fr
  dsimp only at hlv hr3 hf3 hb3 hle3 hsz3 hm hres
  subst hlv
  refine ⟨rfl, br_nsplit (fun hk => ?_) (fun hk => ?_)⟩
  rotate_left
  · have hk : ((opV q : Nat) : Int) = 0 := hk
    rw [exprL_stop (.inl (by omega)) m hm] at hres
    refine ret_m1own (i := 0) rfl rfl rfl rfl rfl rfl fun W' l' hwb hwo => ?_
    dsimp only
    rw [hres]
    exact ⟨⟨A4, c4, hwb, hr3.mono l', hf3, hb3⟩, hwo, A5, c5, rfl⟩
  have hk : ¬ ((opV q : Nat) : Int) = 0 := hk
  have hk0 : ¬ opV q = 0 := by omega
  have hpos := op_pos hk0
  apply br_nbool (b := (opS q).f)
  · intro hqf
    rw [exprL_stop (.inr hqf) m hm] at hres
    refine ret_m1own (i := 0) rfl rfl rfl rfl rfl rfl fun W' l' hwb hwo => ?_
    dsimp only
    rw [hres]
    exact ⟨⟨A4, c4, hwb, hr3.mono l', hf3, hb3⟩, hwo, A5, c5, rfl⟩
  · intro hqf
    obtain ⟨m', rfl, hgo, hm'⟩ := exprL_go (te := te) (l := l3) hk0 hqf hm
    rw [hgo] at hres
    have hl3 : l3.length ≤ 60001 := by unfold sz at hsz hsz3; omega
    obtain ⟨q1, q2, q3⟩ := hfit l3 (opS q) (by omega)
    refine ⟨rfl, _, (i64_in ((l3.length : Int) - 1) ⟨by omega, by omega⟩).symm, ?_⟩
    refine call_m1O (i := 0) rfl rfl rfl rfl rfl rfl k110 (fun g' W1 l1 how hown1 hne1 => (hte l3 (opS q) _ g' W1 (by omega) (by unfold sz at *; omega) ⟨A5, c5, rfl⟩ ⟨A4, c4, how, hr3.mono l1, hf3, hb3⟩ hown1 hne1).mono fun v W7 ⟨⟨A8, c8, ho8, hr8, hf8, hb8⟩, hown8, A9, c9, hv9⟩ l7 => ⟨_, _, ho8, hown8, ?_⟩)
    refine call_O (i := 0) rfl rfl rfl k112 (fun W1 l1 hown1 => (joined_x (te l3 (opS q)).1 (by unfold sz at *; omega) _ ⟨A9, c9, hv9⟩ (opV q) ((l3.length : Int) - 1) W1 hown1).mono fun v W10 ⟨hown10, A11, c11, hv11⟩ l10 => ⟨_, hown10, ?_⟩)
    refine call_m1 rfl rfl rfl rfl k111 (fun g' W12 l12 how => (rop_x N (te l3 (opS q)).2 g' W12 ⟨A8, c8, how, hr8.mono (l1.trans (l10.trans l12)), hf8, hb8⟩).mono fun v' W13 ⟨hv, A14, c14, ho14, hr14, hf14, hb14⟩ l14 => ⟨_, ho14, ?_⟩)
    subst hv
    refine ⟨⟨joinN (opV q) l3 (te l3 (opS q)).1, (te l3 (opS q)).2, A14, c14, v⟩, all_sl ⟨rfl, rfl, trivial⟩, rfl, ole_refl _, ⟨⟨A11, c11, ?_⟩, hr14, hf14, hb14, ?_, ?_, m', ?_, hres⟩, ?_⟩
    · rw [hv11, joinN_len]
    · dsimp only; omega
    · simp only [sz, joinN_len] at *; omega
    · dsimp only; omega
    · dsimp only; omega
theorem expr_all (N : Nat) : ∀ n : Nat, ExC 107 N (exprN n) n
  | 0 => fun l p lv g W hp => by omega
  | n + 1 => expr_x (term_x (factor_x (expr_all N n)) (fac_fit (expr_fit n))) (term_fit (expr_fit n))
end Go.Proofs.YtcgbcbdgjhnlaaaGreat

namespace Go.Proofs.YtcgbcbdgjhnlaaaGreat
open Go.RowKit

def typesO (v : Value) (ts : List TypS) : Own := ⟨v, 97, 2, ts.length, (ts.map typC).flatten⟩
theorem typC_one (n : TypS) : ∀ u ∈ typC n, u.oneCell' = true := by
  intro u hu
  simp only [typC, List.mem_cons, List.not_mem_nil, or_false] at hu
  rcases hu with rfl | rfl <;> rfl
theorem typesO_snoc (A : Option Addr) (c : Nat) (l : List TypS) (x : TypS) : typesO (.slice A (l.length + 1) c) (l ++ [x]) = ⟨.slice A (l.length + 1) c, 97, 2, l.length + 1, (l.map typC).flatten ++ typC x⟩ := by
  unfold typesO; rw [List.length_append, flat_snoc]; (first | done | rfl)
structure RS where
  ts : List TypS
  p : PS
  A : Option Addr
  c : Nat
  tv : Value
set_option maxHeartbeats 4000000 in
theorem rrel_x (N : Nat) (p : PS) (g : Nat) (W : PW) (h : PO N p g W) : CallsX Tryz.prog 98 ⟨[.pointer (some ⟨g, 0, none⟩)]⟩ [g] W fun v W' => ∃ cells, v = .agg ⟨cells⟩ ∧ RelR W' (relN p).1 cells ∧ PO N (relN p).2 g W' := by
  have hpl := h.len
  obtain ⟨A, c, ho, hr, hf, hb⟩ := h
  have hmax := maxLen_big
  refine methNX hmix Tryz.func98 r98 (by kernel_rfl) ho [nilO 97 2, nilO 100 5] rfl [] rfl ?_
  refine call_m1 rfl rfl rfl rfl k96 (fun g' W1 l1 how => (rword_x N p g' W1 ⟨A, c, how, hr.mono l1, hf, hb⟩).mono fun v W2 ⟨hv, A2, c2, ho2, hr2, hf2, hb2⟩ l2 => ⟨_, ho2, ?_⟩)
  subst hv
  refine ⟨rfl, .inl fun b W3 l3 hrb => ?_⟩
  refine call_m1 rfl rfl rfl rfl k69 (fun g' W4 l4 how => (rtake_x N [58] (wdS p) g' W4 ⟨A2, c2, how, hr2.mono (l3.trans l4), hf2, hb2⟩).mono fun v W5 ⟨hv, A5, c5, ho5, hr5, hf5, hb5⟩ l5 => ⟨_, ho5, ?_⟩)
  have hwl := wd_le p
  have hrb5 := hrb.mono (l4.trans l5)
  rcases Bool.eq_false_or_eq_true (takeB [58] (wdS p).l) with h1 | h1
  case' inl =>
    rw [h1] at hv; subst hv
    have ety : typesN (wdS p) = typesL (kindS (tkS [58] (wdS p))).l.length [kindV (tkS [58] (wdS p))] (kindS (tkS [58] (wdS p))) := by rw [tk_yes h1]; unfold typesN; rw [if_pos h1]
    have hk5 := kind_le (tkS [58] (wdS p))
    have ht5 := tk_le [58] (wdS p)
    have ht6 : (tkS [58] (wdS p)).l.length + 1 = (wdS p).l.length := by rw [tk_yes h1]; exact take_pos h1
    refine call_m1 rfl rfl rfl rfl k106 (fun g' W6 l6 how => (rkind_x N (tkS [58] (wdS p)) g' W6 ⟨A5, c5, how, hr5.mono l6, hf5, hb5⟩).mono fun v W7 ⟨hv, A7, c7, ho7, hr7, hf7, hb7⟩ l7 => ⟨_, ho7, ?_⟩)
    subst hv
    refine ⟨rfl, .inl fun b8 W8 l8 hr8 => ⟨0, _, typC (kindV (tkS [58] (wdS p))), rfl, rfl, rfl, rfl, rfl, typC_one _, fun _ => ⟨_, rfl, hr8.o⟩, by show 0 + 1 ≤ maxLen; omega, by show (0 + 1) * 32 ≤ 140737488355328; omega, rfl, @fun A9 c9 _ => ?_⟩⟩
    refine ⟨RS, fun _ => [], fun t => [[.v (.slice t.A t.p.l.length t.c), .v (.bool t.p.f)], [.v (strV []), .v (.slice none 0 0), .v (.slice none 0 0)], [.v (strV (wdV p)), .v t.tv, .v (.slice (some ⟨b, 0, none⟩) 1 1)]], fun t => [typesO t.tv t.ts, nilO 100 5],
      fun t W => (∃ A c, t.tv = .slice A t.ts.length c) ∧ RP (tokC N) W (.slice t.A t.p.l.length t.c) t.p.l ∧ (t.p.f = true → t.p.l = []) ∧ (t.p.l.length ≤ 16384 ∧ ∀ x ∈ t.p.l, x.t.length ≤ 16384) ∧ t.ts.length + t.p.l.length ≤ 16385 ∧ ∃ m, t.p.l.length ≤ m ∧ typesN (wdS p) = typesL m t.ts t.p,
      fun t => t.p.l.length, ⟨[kindV (tkS [58] (wdS p))], kindS (tkS [58] (wdS p)), A7, c7, .slice A9 (0 + 1) c9⟩,
      all_sl trivial, rfl, ole_refl _, ⟨⟨A9, c9, rfl⟩, hr7.mono l8, hf7, hb7, by simp only [List.length_cons, List.length_nil]; omega, _, Nat.le_refl _, ety⟩, loopOK (fun _ => trivial) (fun _ => rfl) (fun _ => rfl), ?_⟩
    rintro ⟨ts, q, A10, c10, tv⟩ W9 l9 ⟨⟨Atv, ctv, htv⟩, hr9, hf9, hb9, hn9, m, hm, hres⟩ fr
    dsimp only at htv hr9 hf9 hb9 hn9 hm hres
    subst htv
    have hrb9 := hrb5.mono (l6.trans (l7.trans (l8.trans l9)))
    refine call_m1 rfl rfl rfl rfl k69 (fun g' Wa la how => (rtake_x N [124] q g' Wa ⟨A10, c10, how, hr9.mono la, hf9, hb9⟩).mono fun v W10 ⟨hv, A11, c11, ho11, hr11, hf11, hb11⟩ l10 => ⟨_, ho11, ?_⟩)
    have hrb10 := hrb9.mono (la.trans l10)
    rcases Bool.eq_false_or_eq_true (takeB [124] q.l) with h4 | h4
    · rw [h4] at hv; subst hv
      obtain ⟨m', rfl, hgo, hm'⟩ := typesL_go (ts := ts) h4 hm
      rw [← tk_yes h4] at hgo hm'
      have hk6 := kind_le (tkS [124] q)
      have ht7 : (tkS [124] q).l.length + 1 = q.l.length := by rw [tk_yes h4]; exact take_pos h4
      refine call_m1 rfl rfl rfl rfl k106 (fun g' Wb lb how => (rkind_x N (tkS [124] q) g' Wb ⟨A11, c11, how, hr11.mono lb, hf11, hb11⟩).mono fun v Wc ⟨hv, Ac, cc, hoc, hrc, hfc, hbc⟩ lc => ⟨_, hoc, ?_⟩)
      subst hv
      refine ⟨rfl, .inl fun bd Wd ld hrd => ⟨0, _, typC (kindV (tkS [124] q)), rfl, rfl, rfl, rfl, rfl, typC_one _, fun _ => ⟨_, rfl, hrd.o⟩, by show ts.length + 1 ≤ maxLen; omega, by show (ts.length + 1) * 32 ≤ 140737488355328; omega, rfl, @fun Ae ce _ => ?_⟩⟩
      refine ⟨⟨ts ++ [kindV (tkS [124] q)], kindS (tkS [124] q), Ac, cc, .slice Ae (ts.length + 1) ce⟩, all_sl trivial, rfl, ole_eq ?_, ⟨⟨Ae, ce, by rw [List.length_append]; (first | done | rfl)⟩, hrc.mono ld, hfc, hbc, ?_, m', hm', hres.trans hgo⟩, ?_⟩
      · exact congrArg (fun o => [o, nilO 100 5]) (typesO_snoc Ae ce ts (kindV (tkS [124] q))).symm
      · simp only [List.length_append, List.length_cons, List.length_nil]; omega
      · dsimp only; omega
    rw [h4] at hv; subst hv
    rw [typesL_stop h4] at hres
    rw [tk_no h4] at hr11 hf11 hb11
    have hP : ∀ (g' : Nat) (W1 : PW), W10.Le W1 → OwnB W1 g' [.slice A11 (tkS [124] q).l.length c11, .bool (tkS [124] q).f] → PO N (typesN (wdS p)).2 g' W1 := fun g' W1 l1 how => by
      rw [tk_no h4] at how
      rw [hres]; exact ⟨A11, c11, how, hr11.mono l1, hf11, hb11⟩
    have hT : ∀ W1 : PW, SlRead W1 (.slice Atv ts.length ctv) ts.length (ts.map typC).flatten → RP typC W1 (.slice Atv ts.length ctv) (typesN (wdS p)).1 := fun W1 hs => by
      rw [hres]; exact hs
    have hNv : ∀ W1 : PW, W10.Le W1 → RP nodeC W1 (.slice (some ⟨b, 0, none⟩) 1 1) [thisN] := fun W1 l1 => SlRead.of_rds (hrb10.mono l1) (by omega)
  case' inr =>
    rw [h1] at hv; subst hv
    have ety : typesN (wdS p) = ([], wdS p) := by unfold typesN; rw [h1]; (first | done | rfl)
    rw [tk_no h1] at hr5 hf5 hb5
    have hP : ∀ (g' : Nat) (W1 : PW), W5.Le W1 → OwnB W1 g' [.slice A5 (tkS [58] (wdS p)).l.length c5, .bool (tkS [58] (wdS p)).f] → PO N (typesN (wdS p)).2 g' W1 := fun g' W1 l1 how => by
      rw [tk_no h1] at how
      rw [ety]; exact ⟨A5, c5, how, hr5.mono l1, hf5, hb5⟩
    have hT : ∀ W1 : PW, SlRead W1 (.slice none 0 0) 0 [] → RP typC W1 (.slice none 0 0) (typesN (wdS p)).1 := fun W1 hs => by
      rw [ety]; exact hs
    have hNv : ∀ W1 : PW, W5.Le W1 → RP nodeC W1 (.slice (some ⟨b, 0, none⟩) 1 1) [thisN] := fun W1 l1 => SlRead.of_rds (hrb5.mono l1) (by omega)
  all_goals
    refine call_m1 rfl rfl rfl rfl k69 (fun g' Wf lf how => (rtake_x N [61] (typesN (wdS p)).2 g' Wf (hP g' Wf (by exact lf) (by exact how))).mono fun v Wg ⟨hv, Ag, cg, hog, hrg, hfg, hbg⟩ lg => ⟨_, hog, ?_⟩)
    have htl := types_le (wdS p)
    rcases Bool.eq_false_or_eq_true (takeB [61] (typesN (wdS p)).2.l) with h2 | h2
    case' inl =>
      rw [h2] at hv; subst hv
      have ht8 : (tkS [61] (typesN (wdS p)).2).l.length + 1 = (typesN (wdS p)).2.l.length := by rw [tk_yes h2]; exact take_pos h2
      have eno : nodesN (typesN (wdS p)).2 = exprN (typesN (wdS p)).2.l.length [] (tkS [61] (typesN (wdS p)).2) := by rw [tk_yes h2]; unfold nodesN; rw [if_pos h2]
      refine call_m1O (i := 1) rfl rfl rfl rfl rfl rfl k107 (fun g' Wh lh how hown1 hne1 => (expr_all N (typesN (wdS p)).2.l.length [] (tkS [61] (typesN (wdS p)).2) _ g' Wh (by omega) (by unfold sz; simp only [List.length_nil]; omega) ⟨none, 0, rfl⟩ ⟨Ag, cg, how, hrg.mono lh, hfg, hbg⟩ hown1 hne1).mono fun v Wi ⟨⟨Ai, ci, hoi, hri, hfi, hbi⟩, howni, Aj, cj, hvj⟩ li => ⟨_, _, hoi, howni, ?_⟩)
      subst hvj
      have hP2 : ∀ (g' : Nat) (W1 : PW), Wi.Le W1 → OwnB W1 g' [.slice Ai (exprN (typesN (wdS p)).2.l.length [] (tkS [61] (typesN (wdS p)).2)).2.l.length ci, .bool (exprN (typesN (wdS p)).2.l.length [] (tkS [61] (typesN (wdS p)).2)).2.f] → PO N (nodesN (typesN (wdS p)).2).2 g' W1 := fun g' W1 l1 how => by
        rw [eno]; exact ⟨Ai, ci, how, hri.mono l1, hfi, hbi⟩
      have hN : ∀ W1 : PW, Wi.Le W1 → SlRead W1 (.slice Aj (exprN (typesN (wdS p)).2.l.length [] (tkS [61] (typesN (wdS p)).2)).1.length cj) (exprN (typesN (wdS p)).2.l.length [] (tkS [61] (typesN (wdS p)).2)).1.length ((exprN (typesN (wdS p)).2.l.length [] (tkS [61] (typesN (wdS p)).2)).1.map nodeC).flatten → RP nodeC W1 (.slice Aj (exprN (typesN (wdS p)).2.l.length [] (tkS [61] (typesN (wdS p)).2)).1.length cj) (nodesN (typesN (wdS p)).2).1 := fun W1 _ hs => by
        rw [eno]; exact hs
    case' inr =>
      rw [h2] at hv; subst hv
      have eno : nodesN (typesN (wdS p)).2 = ([thisN], (typesN (wdS p)).2) := by unfold nodesN; rw [h2]; (first | done | rfl)
      rw [tk_no h2] at hrg hfg hbg
      have hP2 : ∀ (g' : Nat) (W1 : PW), Wg.Le W1 → OwnB W1 g' [.slice Ag (tkS [61] (typesN (wdS p)).2).l.length cg, .bool (tkS [61] (typesN (wdS p)).2).f] → PO N (nodesN (typesN (wdS p)).2).2 g' W1 := fun g' W1 l1 how => by
        rw [tk_no h2] at how
        rw [eno]; exact ⟨Ag, cg, how, hrg.mono l1, hfg, hbg⟩
      have hN : ∀ W1 : PW, Wg.Le W1 → SlRead W1 (.slice none 0 0) 0 [] → RP nodeC W1 (.slice (some ⟨b, 0, none⟩) 1 1) (nodesN (typesN (wdS p)).2).1 := fun W1 l1 _ => by
        rw [eno]; exact hNv W1 (lf.trans (lg.trans l1))
    all_goals
      refine call_m1 rfl rfl rfl rfl k97 (fun g' Wk lk how => (rmust_x N [59] (nodesN (typesN (wdS p)).2).2 g' Wk (hP2 g' Wk (by exact lk) (by exact how))).mono fun v Wl ⟨Al, cl, hol, hrl, hfl, hbl⟩ ll => ⟨_, hol, ?_⟩)
      refine RetVC.freeze (fun _ hb => hb) (i := 0) rfl fun Wm lm hs0 => ?_
      refine RetVC.freeze (fun _ hb => hb) (i := 0) rfl fun Wn ln hs1 => ?_
      refine ret_m1 rfl rfl rfl rfl fun W' l hw => ?_
      exact ⟨_, rfl, ⟨_, _, rfl, (hT _ hs0).mono (ln.trans l), (hN _ (lk.trans (ll.trans (lm.trans ln))) hs1).mono l⟩, Al, cl, hw, hrl.mono (lm.trans (ln.trans l)), hfl, hbl⟩
end Go.Proofs.YtcgbcbdgjhnlaaaGreat

namespace Go.Proofs.YtcgbcbdgjhnlaaaGreat
open Go.RowKit

structure SS where
  rs : List RelS
  css : List (List Value)
  p : PS
  A : Option Addr
  c : Nat
  rA : Option Addr
  rc : Nat
set_option maxHeartbeats 4000000 in
theorem rspace_x (N : Nat) (p : PS) (g : Nat) (W : PW) (h : PO N p g W) : CallsX Tryz.prog 70 ⟨[.pointer (some ⟨g, 0, none⟩)]⟩ [g] W fun v W' => ∃ cells, v = .agg ⟨cells⟩ ∧ SpR W' (spaceN p).1 cells ∧ PO N (spaceN p).2 g W' := by
  have hpl := h.len
  obtain ⟨A, c, ho, hr, hf, hb⟩ := h
  have hmax := maxLen_big
  refine methNX hmix Tryz.func70 r70 (by kernel_rfl) ho [nilO 74 3] rfl [] rfl ?_
  refine call_m1 rfl rfl rfl rfl k96 (fun g' W1 l1 how => (rword_x N p g' W1 ⟨A, c, how, hr.mono l1, hf, hb⟩).mono fun v W2 ⟨hv, A2, c2, ho2, hr2, hf2, hb2⟩ l2 => ⟨_, ho2, ?_⟩)
  subst hv
  refine call_m1 rfl rfl rfl rfl k97 (fun g' W3 l3 how => (rmust_x N [123] (wdS p) g' W3 ⟨A2, c2, how, hr2.mono l3, hf2, hb2⟩).mono fun v W4 ⟨A4, c4, ho4, hr4, hf4, hb4⟩ l4 => ⟨_, ho4, ?_⟩)
  have hwl := wd_le p
  have hml := must_le [123] (wdS p)
  refine ⟨SS, fun _ => [], fun t => [[.v (.slice t.A t.p.l.length t.c), .v (.bool t.p.f)], [.v (strV []), .v (.slice none 0 0)], [.v (strV (wdV p)), .v (.slice t.rA t.rs.length t.rc)]], fun t => [⟨.slice t.rA t.rs.length t.rc, 74, 3, t.rs.length, t.css.flatten⟩],
    fun t W => LR RelR 3 W t.rs t.css ∧ RP (tokC N) W (.slice t.A t.p.l.length t.c) t.p.l ∧ (t.p.f = true → t.p.l = []) ∧ (t.p.l.length ≤ 16384 ∧ ∀ x ∈ t.p.l, x.t.length ≤ 16384) ∧ t.rs.length + t.p.l.length ≤ 16385 ∧ ∃ m, t.p.l.length ≤ m ∧ relsL (mustS [123] (wdS p)).l.length [] (mustS [123] (wdS p)) = relsL m t.rs t.p,
    fun t => t.p.l.length, ⟨[], [], mustS [123] (wdS p), A4, c4, none, 0⟩,
    all_sl trivial, rfl, ole_refl _, ⟨trivial, hr4, hf4, hb4, by simp only [List.length_nil]; omega, _, Nat.le_refl _, rfl⟩, loopOK (fun _ => trivial) (fun _ => rfl) (fun _ => rfl), ?_⟩
  rintro ⟨rs, css, q, A5, c5, rA, rc⟩ W5 l5 ⟨hL, hr5, hf5, hb5, hn5, m, hm, hres⟩ fr
  dsimp only at hL hr5 hf5 hb5 hn5 hm hres
  refine call_m1 rfl rfl rfl rfl k69 (fun g' W6 l6 how => (rtake_x N kRelation q g' W6 ⟨A5, c5, how, hr5.mono l6, hf5, hb5⟩).mono fun v W7 ⟨hv, A7, c7, ho7, hr7, hf7, hb7⟩ l7 => ⟨_, ho7, ?_⟩)
  rcases Bool.eq_false_or_eq_true (takeB kRelation q.l) with h1 | h1
  · rw [h1] at hv; subst hv
    obtain ⟨m', rfl, hgo, hm'⟩ := relsL_go (rs := rs) h1 hm
    rw [← tk_yes h1] at hgo hm'
    have hk6 := rel_le (tkS kRelation q)
    have ht7 : (tkS kRelation q).l.length + 1 = q.l.length := by rw [tk_yes h1]; exact take_pos h1
    refine call_m1 rfl rfl rfl rfl k98 (fun g' Wb lb how => (rrel_x N (tkS kRelation q) g' Wb ⟨A7, c7, how, hr7.mono lb, hf7, hb7⟩).mono fun v Wc ⟨cells, hv, ⟨tv, nv, hcells, hT, hNn⟩, Ac, cc, hoc, hrc, hfc, hbc⟩ lc => ⟨_, hoc, ?_⟩)
    obtain ⟨a1, e1, rfl, _, _⟩ := hT.form
    obtain ⟨a2, e2, rfl, _, _⟩ := hNn.form
    subst hcells hv
    refine ⟨rfl, .inl fun bd Wd ld hrd => ⟨0, _, [strV (relN (tkS kRelation q)).1.name, .slice a1 (relN (tkS kRelation q)).1.types.length e1, .slice a2 (relN (tkS kRelation q)).1.nodes.length e2], rfl, rfl, rfl, rfl, rfl, ?_, fun _ => ⟨_, rfl, hrd.o⟩, by show rs.length + 1 ≤ maxLen; omega, by show (rs.length + 1) * 64 ≤ 140737488355328; omega, rfl, @fun Ae ce _ => ?_⟩⟩
    · intro u hu
      simp only [List.mem_cons, List.not_mem_nil, or_false] at hu
      rcases hu with rfl | rfl | rfl <;> rfl
    refine ⟨⟨rs ++ [(relN (tkS kRelation q)).1], css ++ [[strV (relN (tkS kRelation q)).1.name, .slice a1 (relN (tkS kRelation q)).1.types.length e1, .slice a2 (relN (tkS kRelation q)).1.nodes.length e2]], (relN (tkS kRelation q)).2, Ac, cc, Ae, ce⟩, all_sl trivial, ?_, ole_eq ?_, ⟨?_, hrc.mono ld, hfc, hbc, ?_, m', hm', hres.trans hgo⟩, ?_⟩
    · dsimp only; rw [List.length_append]; (first | done | rfl)
    · dsimp only; rw [List.length_append, List.flatten_append]; simp only [List.flatten_cons, List.flatten_nil, List.append_nil]; (first | done | rfl)
    · refine LR.snoc (R := RelR) rfl (⟨_, _, rfl, hT.mono ld, hNn.mono ld⟩ : RelR Wd _ _) (hL.mono RelR.mono (l6.trans (l7.trans (lb.trans (lc.trans ld)))))
    · simp only [List.length_append, List.length_cons, List.length_nil]; omega
    · dsimp only; omega
  rw [h1] at hv; subst hv
  rw [relsL_stop h1] at hres
  rw [tk_no h1] at hr7 hf7 hb7
  refine call_m1 rfl rfl rfl rfl k97 (fun g' W8 l8 how => (rmust_x N [125] q g' W8 ⟨A7, c7, (tk_no h1) ▸ how, hr7.mono l8, hf7, hb7⟩).mono fun v W9 ⟨A9, c9, ho9, hr9, hf9, hb9⟩ l9 => ⟨_, ho9, ?_⟩)
  have e : spaceN p = (⟨wdV p, rs⟩, mustS [125] q) := by unfold spaceN; rw [hres]
  rw [e]
  refine RetVC.freeze (fun _ hb => hb) (i := 0) rfl fun Wm lm hs0 => ?_
  refine ret_m1 rfl rfl rfl rfl fun W' l hw => ?_
  exact ⟨_, rfl, ⟨_, rfl, css, hL.mono RelR.mono (l6.trans (l7.trans (l8.trans (l9.trans (lm.trans l))))), SlRead.mono hs0 l⟩, A9, c9, hw, hr9.mono (lm.trans l), hf9, hb9⟩
theorem next_parts (N : Nat) (p : PS) (hb : p.l.length ≤ 16384 ∧ ∀ x ∈ p.l, x.t.length ≤ 16384) : ∃ (k : Nat) (s : List UInt8) (a : Int), nextC N p.l = [.int .i64 k, strV s, .int .i64 a] ∧ knd p = k ∧ txtOf p = s ∧ s.length ≤ 16384 := by
  obtain ⟨l, f⟩ := p
  cases l with
  | nil => exact ⟨0, [], 0, rfl, rfl, rfl, Nat.zero_le _⟩
  | cons x r => exact ⟨x.k, x.t, _, rfl, rfl, rfl, hb.2 x (List.mem_cons_self ..)⟩
theorem knd_pos {p : PS} (h : knd p = 2) : 1 ≤ p.l.length := by
  unfold knd at h
  split at h
  · rename_i x r hx; rw [hx]; simp
  · omega
theorem PO.tail' {N : Nat} {p : PS} {g : Nat} {W W' : PW} {A : Option Addr} {c : Nat} (hr : RP (tokC N) W (.slice A p.l.length c) p.l) (hf : p.f = true → p.l = []) (hb : p.l.length ≤ 16384 ∧ ∀ y ∈ p.l, y.t.length ≤ 16384) (h1 : 1 ≤ p.l.length) (l : W.Le W')
    (hw : OwnB W' g [.slice (if c = 1 then A else A.map (·.add (1 * 3))) (p.l.length - 1) (c - 1), .bool p.f]) : PO N p.tail g W' := by
  obtain ⟨toks, f⟩ := p
  cases toks with
  | nil => cases h1
  | cons x r => exact PO.tail hr hf hb l hw
theorem cut_two (s : List UInt8) (hs : s.length ≤ 16384) {v : Value} (hv : v = cutV 35 s) : ∃ a b d, (a.length ≤ 16384 ∧ b.length ≤ 16384) ∧ v = .tuple ⟨[strV a, strV b, .bool d]⟩ ∧ cutA s = (a, b) := by
  rw [hv]; unfold cutV cutA
  cases hc : cutL 35 s with
  | none => exact ⟨s, [], false, ⟨hs, Nat.zero_le _⟩, rfl, rfl⟩
  | some p =>
    obtain ⟨a, b⟩ := p
    obtain ⟨l1, l2⟩ := cutL_len hc
    exact ⟨a, b, true, ⟨by omega, by omega⟩, rfl, rfl⟩
set_option maxHeartbeats 4000000 in
theorem rscope_x (N : Nat) (p : PS) (g : Nat) (W : PW) (h : PO N p g W) : CallsX Tryz.prog 71 ⟨[.pointer (some ⟨g, 0, none⟩)]⟩ [g] W fun v W' => v = .agg ⟨scopeC (scopeN p).1⟩ ∧ PO N (scopeN p).2 g W' := by
  obtain ⟨A, c, ho, hr, hf, hb⟩ := h
  refine methX hmix Tryz.func71 r71 (by kernel_rfl) ho [] rfl ?_
  refine call_m1 rfl rfl rfl rfl k96 (fun g' W1 l1 how => (rword_x N p g' W1 ⟨A, c, how, hr.mono l1, hf, hb⟩).mono fun v W2 ⟨hv, A2, c2, ho2, hr2, hf2, hb2⟩ l2 => ⟨_, ho2, ?_⟩)
  obtain ⟨w, hw0, rfl⟩ : ∃ w, wdV p = w ∧ v = strV w := ⟨_, rfl, hv⟩
  refine call_m1 rfl rfl rfl rfl k97 (fun g' W3 l3 how => (rmust_x N [61] (wdS p) g' W3 ⟨A2, c2, how, hr2.mono l3, hf2, hb2⟩).mono fun v W4 ⟨A4, c4, ho4, hr4, hf4, hb4⟩ l4 => ⟨_, ho4, ?_⟩)
  refine call_m1 rfl rfl rfl rfl k95 (fun g' W5 l5 how => (rnext_x N (mustS [61] (wdS p)) g' W5 ⟨A4, c4, how, hr4.mono l5, hf4, hb4⟩).mono fun v W6 ⟨hv, A6, c6, ho6, hr6, hf6, hb6⟩ l6 => ⟨_, ho6, ?_⟩)
  obtain ⟨k, s, a0, hn, hk0, hs0, hsl⟩ := next_parts N (mustS [61] (wdS p)) hb6
  rw [hn] at hv
  subst hv
  have no : scopeOK (mustS [61] (wdS p)) = false → scopeN p = (⟨w, noRef, []⟩, PS.bad) := fun h => by
    unfold scopeN; rw [hw0, if_neg (by rw [h]; exact Bool.false_ne_true)]
  refine call_v rfl (fun W' _ => cut_x s 35 (by omega) W') (fun W7 v W8 l7 l8 hv => ?_)
  obtain ⟨a, b, d, hab, rfl, hcut⟩ := cut_two s hsl hv
  refine ⟨_, rfl, _, rfl, _, rfl, ?_⟩
  refine call_v rfl (fun W' _ => ref_x a (by omega) W') (fun W9 v W10 l9 l10 hv => ?_)
  have hok : scopeOK (mustS [61] (wdS p)) = (decide (k = 2) && ((refP a).isSome && wordS b)) := by
    unfold scopeOK; rw [hk0, hs0, hcut]
  obtain ⟨e, rr, he, hrr, rfl⟩ : ∃ (e : Int) (rr : RefS), (if (refP a).isSome then (0 : Int) else 4) = e ∧ refM a = rr ∧ v = .tuple ⟨[.agg ⟨refC rr⟩, .int .i64 e]⟩ := ⟨_, _, rfl, rfl, hv⟩
  refine ⟨_, rfl, _, rfl, rfl, br_nsplit (fun hk => ?_) (fun hk => ?_)⟩
  · have hk : ¬ (k : Int) = 2 := hk
    rw [no (by rw [hok, decide_eq_false (by omega)]; (first | done | rfl))]
    refine call_m1 rfl rfl rfl rfl k72 (fun g' Wa la how => (rfail_x N (mustS [61] (wdS p)) g' Wa ⟨A6, c6, how, hr6.mono (l7.trans (l8.trans (l9.trans (l10.trans la)))), hf6, hb6⟩).mono fun v Wb ⟨Ab, cb, hob, hrb, hfb, hbb⟩ lb => ⟨_, hob, ?_⟩)
    exact ret_m1 rfl rfl rfl rfl fun W' l hw => ⟨rfl, Ab, cb, hw, hrb.mono l, hfb, hbb⟩
  have hk : (k : Int) = 2 := hk
  have hk2 : decide (k = 2) = true := decide_eq_true (by omega)
  have h1 := knd_pos (hk0.trans (by omega))
  have hs : (refP a).isSome = decide (e = 0) := by rw [← he]; cases (refP a).isSome <;> rfl
  refine ⟨rfl, ?_⟩
  apply br_nsplit
  · intro he0
    have he0 : ¬ e = 0 := he0
    rw [no (by rw [hok, hs, hk2, decide_eq_false he0]; (first | done | rfl))]
    refine call_m1 rfl rfl rfl rfl k72 (fun g' Wa la how => (rfail_x N (mustS [61] (wdS p)) g' Wa ⟨A6, c6, how, hr6.mono (l7.trans (l8.trans (l9.trans (l10.trans la)))), hf6, hb6⟩).mono fun v Wb ⟨Ab, cb, hob, hrb, hfb, hbb⟩ lb => ⟨_, hob, ?_⟩)
    exact ret_m1 rfl rfl rfl rfl fun W' l hw => ⟨rfl, Ab, cb, hw, hrb.mono l, hfb, hbb⟩
  intro he0
  have he0 : e = 0 := he0
  rw [decide_eq_true he0] at hs
  refine call_v rfl (fun W' _ => word_x b (by omega) W') (fun W11 v W12 l11 l12 hv => ?_)
  cases hw : wordS b with
  | false =>
    rw [hw] at hv; subst hv
    rw [no (by rw [hok, hs, hk2, hw]; (first | done | rfl))]
    refine call_m1 rfl rfl rfl rfl k72 (fun g' Wa la how => (rfail_x N (mustS [61] (wdS p)) g' Wa ⟨A6, c6, how, hr6.mono (l7.trans (l8.trans (l9.trans (l10.trans (l11.trans (l12.trans la)))))), hf6, hb6⟩).mono fun v Wb ⟨Ab, cb, hob, hrb, hfb, hbb⟩ lb => ⟨_, hob, ?_⟩)
    exact ret_m1 rfl rfl rfl rfl fun W' l hw => ⟨rfl, Ab, cb, hw, hrb.mono l, hfb, hbb⟩
  | true =>
    rw [hw] at hv; subst hv
    have yes : scopeN p = (⟨w, rr, b⟩, mustS [59] (PS.tail (mustS [61] (wdS p)))) := by
      unfold scopeN
      rw [hw0, if_pos (by rw [hok, hs, hk2, hw]; (first | done | rfl)), hs0, hcut, ← hrr]
    rw [yes]
    obtain ⟨A3, c3, e3, hc1, hc2⟩ := hr6.form
    simp only [Value.slice.injEq] at e3
    obtain ⟨rfl, _, rfl⟩ := e3
    refine ⟨⟨by omega, by show (1 : Int) ≤ (mustS [61] (wdS p)).l.length; omega, by show ((mustS [61] (wdS p)).l.length : Int) ≤ c6; omega⟩, ?_⟩
    refine call_m1 rfl rfl rfl rfl k97 (fun g' Wa la how => (rmust_x N [59] (PS.tail (mustS [61] (wdS p))) g' Wa (PO.tail' hr6 hf6 hb6 h1 (l7.trans (l8.trans (l9.trans (l10.trans (l11.trans (l12.trans la)))))) how)).mono fun v Wb ⟨Ab, cb, hob, hrb, hfb, hbb⟩ lb => ⟨_, hob, ?_⟩)
    exact ret_m1 rfl rfl rfl rfl fun W' l hw => ⟨rfl, Ab, cb, hw, hrb.mono l, hfb, hbb⟩
end Go.Proofs.YtcgbcbdgjhnlaaaGreat

namespace Go.Proofs.YtcgbcbdgjhnlaaaGreat
open Go.RowKit

theorem confL_stop {c : ConfS} {p : PS} (h : (p.f || p.l.isEmpty) = true) : ∀ m, confL m c p = (c, p)
  | 0 => rfl
  | m + 1 => by simp only [confL, h]; (first | done | rfl)
theorem confL_go {c : ConfS} {p : PS} (hf : p.f = false) (hp : 1 ≤ p.l.length) {m : Nat} (hm : p.l.length ≤ m) : ∃ m', m = m' + 1 ∧ p.l.length ≤ m' + 1 ∧ confL m c p =
    if takeB kNamespace p.l then confL m' ⟨c.spaces ++ [(spaceN p.tail).1], c.scopes⟩ (spaceN p.tail).2
    else if takeB kScope p.l then confL m' ⟨c.spaces, c.scopes ++ [(scopeN p.tail).1]⟩ (scopeN p.tail).2
    else confL m' c PS.bad := by
  obtain ⟨m', rfl⟩ : ∃ m', m = m' + 1 := ⟨m - 1, by omega⟩
  refine ⟨m', rfl, hm, ?_⟩
  have e : (p.f || p.l.isEmpty) = false := by
    rw [hf]
    cases hl : p.l with
    | nil => rw [hl] at hp; cases hp
    | cons x r => rfl
  simp only [confL, e]; (first | done | rfl)
theorem scopeC_one (n : ScopeS) : ∀ u ∈ scopeC n, u.oneCell' = true := by
  intro u hu
  simp only [scopeC, List.mem_cons, List.not_mem_nil, or_false] at hu
  rcases hu with rfl | rfl | rfl | rfl <;> rfl
structure CS where
  sp : List SpaceS
  sc : List ScopeS
  css : List (List Value)
  p : PS
  A : Option Addr
  c : Nat
  sA : Option Addr
  sn : Nat
  kA : Option Addr
  kn : Nat
set_option maxRecDepth 20000 in
set_option maxHeartbeats 8000000 in
theorem rconf_x (N : Nat) (p : PS) (g : Nat) (W : PW) (h : PO N p g W) : CallsX Tryz.prog 53 ⟨[.pointer (some ⟨g, 0, none⟩)]⟩ [g] W fun v W' => ∃ cells, v = .agg ⟨cells⟩ ∧ ConfR W' (confN p).1 cells ∧ PO N (confN p).2 g W' := by
  have hpl := h.len
  obtain ⟨A, c, ho, hr, hf, hb⟩ := h
  have hmax := maxLen_big
  refine methNX hmix Tryz.func53 r53 (by kernel_rfl) ho [nilO 69 2, nilO 78 4] rfl [] rfl ?_
  refine ⟨CS, fun _ => [], fun t => [[.v (.slice t.A t.p.l.length t.c), .v (.bool t.p.f)], [.v (.slice none 0 0), .v (.slice none 0 0)], [.v (.slice t.sA t.sp.length t.sn), .v (.slice t.kA t.sc.length t.kn)]],
    fun t => [⟨.slice t.sA t.sp.length t.sn, 69, 2, t.sp.length, t.css.flatten⟩, ⟨.slice t.kA t.sc.length t.kn, 78, 4, t.sc.length, (t.sc.map scopeC).flatten⟩],
    fun t W => LR SpR 2 W t.sp t.css ∧ RP (tokC N) W (.slice t.A t.p.l.length t.c) t.p.l ∧ (t.p.f = true → t.p.l = []) ∧ (t.p.l.length ≤ 16384 ∧ ∀ x ∈ t.p.l, x.t.length ≤ 16384) ∧ t.sp.length + t.sc.length + t.p.l.length ≤ 16384 ∧ ∃ m, t.p.l.length ≤ m ∧ confN p = confL m ⟨t.sp, t.sc⟩ t.p,
    fun t => t.p.l.length, ⟨[], [], [], p, A, c, none, 0, none, 0⟩,
    all_sl trivial, rfl, ole_refl _, ⟨trivial, hr, hf, hb, by simp only [List.length_nil]; omega, _, Nat.le_refl _, rfl⟩, loopOK (fun _ => trivial) (fun _ => rfl) (fun _ => rfl), ?_⟩
  rintro ⟨sp, sc, css, ⟨toks, f⟩, A5, c5, sA, sn, kA, kn⟩ W5 l5 ⟨hL, hr5, hf5, hb5, hn5, m, hm, hres⟩ fr
  dsimp only at hL hr5 hf5 hb5 hn5 hm hres
  cases f with
  | true =>
    rw [confL_stop rfl] at hres
    rw [hres]
    refine RetVC.freeze (fun _ hb => hb) (i := 0) rfl fun Wm lm hs0 => ?_
    refine RetVC.freeze (fun _ hb => hb) (i := 0) rfl fun Wn ln hs1 => ?_
    refine ret_m1 rfl rfl rfl rfl fun W' l hw => ?_
    exact ⟨_, rfl, ⟨_, _, rfl, ⟨css, hL.mono SpR.mono (lm.trans (ln.trans l)), SlRead.mono hs0 (ln.trans l)⟩, SlRead.mono hs1 l⟩, A5, c5, hw, hr5.mono (lm.trans (ln.trans l)), hf5, hb5⟩
  | false =>
    refine ⟨rfl, br_split (fun hq => ?_) (fun hq => ?_)⟩
    rotate_left
    · have hq : ¬ (0 : Int) < toks.length := hq
      have hnil : toks = [] := List.eq_nil_of_length_eq_zero (by omega)
      rw [confL_stop (by rw [hnil]; (first | done | rfl))] at hres
      rw [hres]
      refine RetVC.freeze (fun _ hb => hb) (i := 0) rfl fun Wm lm hs0 => ?_
      refine RetVC.freeze (fun _ hb => hb) (i := 0) rfl fun Wn ln hs1 => ?_
      refine ret_m1 rfl rfl rfl rfl fun W' l hw => ?_
      exact ⟨_, rfl, ⟨_, _, rfl, ⟨css, hL.mono SpR.mono (lm.trans (ln.trans l)), SlRead.mono hs0 (ln.trans l)⟩, SlRead.mono hs1 l⟩, A5, c5, hw, hr5.mono (lm.trans (ln.trans l)), hf5, hb5⟩
    have hq : (0 : Int) < toks.length := hq
    obtain ⟨m', rfl, hm', hgo⟩ := confL_go (c := ⟨sp, sc⟩) (p := ⟨toks, false⟩) rfl (by show 1 ≤ toks.length; omega) hm
    rw [hgo] at hres
    dsimp only at hm'
    refine call_m1 rfl rfl rfl rfl k69 (fun g' W6 l6 how => (rtake_x N kNamespace ⟨toks, false⟩ g' W6 ⟨A5, c5, how, hr5.mono l6, hf5, hb5⟩).mono fun v W7 ⟨hv, A7, c7, ho7, hr7, hf7, hb7⟩ l7 => ⟨_, ho7, ?_⟩)
    rcases Bool.eq_false_or_eq_true (takeB kNamespace toks) with h1 | h1
    · rw [show takeB kNamespace (PS.mk toks false).l = true from h1] at hv; subst hv
      rw [if_pos (show takeB kNamespace (PS.mk toks false).l = true from h1), ← tk_yes (p := ⟨toks, false⟩) h1] at hres
      have ht7 : (tkS kNamespace ⟨toks, false⟩).l.length + 1 = toks.length := by rw [tk_yes (p := ⟨toks, false⟩) h1]; exact take_pos (p := ⟨toks, false⟩) h1
      have hk6 := space_le (tkS kNamespace ⟨toks, false⟩)
      refine call_m1 rfl rfl rfl rfl k70 (fun g' Wb lb how => (rspace_x N (tkS kNamespace ⟨toks, false⟩) g' Wb ⟨A7, c7, how, hr7.mono lb, hf7, hb7⟩).mono fun v Wc ⟨cells, hv, ⟨rv, hcells, hR⟩, Ac, cc, hoc, hrc, hfc, hbc⟩ lc => ⟨_, hoc, ?_⟩)
      obtain ⟨a1, e1, rfl, _, _⟩ := hR.form
      subst hcells hv
      refine ⟨rfl, .inl fun bd Wd ld hrd => ⟨0, _, [strV (spaceN (tkS kNamespace ⟨toks, false⟩)).1.name, .slice a1 (spaceN (tkS kNamespace ⟨toks, false⟩)).1.rels.length e1], rfl, rfl, rfl, rfl, rfl, ?_, fun _ => ⟨_, rfl, hrd.o⟩, by show sp.length + 1 ≤ maxLen; omega, by show (sp.length + 1) * 40 ≤ 140737488355328; omega, rfl, @fun Ae ce _ => ?_⟩⟩
      · intro u hu
        simp only [List.mem_cons, List.not_mem_nil, or_false] at hu
        rcases hu with rfl | rfl <;> rfl
      refine ⟨⟨sp ++ [(spaceN (tkS kNamespace ⟨toks, false⟩)).1], sc, css ++ [[strV (spaceN (tkS kNamespace ⟨toks, false⟩)).1.name, .slice a1 (spaceN (tkS kNamespace ⟨toks, false⟩)).1.rels.length e1]], (spaceN (tkS kNamespace ⟨toks, false⟩)).2, Ac, cc, Ae, ce, kA, kn⟩, all_sl trivial, ?_, ole_eq ?_, ⟨?_, hrc.mono ld, hfc, hbc, ?_, m', ?_, hres⟩, ?_⟩
      · dsimp only; rw [List.length_append]; (first | done | rfl)
      · dsimp only; rw [List.length_append, List.flatten_append]; simp only [List.flatten_cons, List.flatten_nil, List.append_nil]; (first | done | rfl)
      · refine LR.snoc (R := SpR) rfl (⟨_, rfl, hR.mono RelR.mono ld⟩ : SpR Wd _ _) (hL.mono SpR.mono (l6.trans (l7.trans (lb.trans (lc.trans ld)))))
      · simp only [List.length_append, List.length_cons, List.length_nil]; omega
      · dsimp only; omega
      · dsimp only; omega
    rw [show takeB kNamespace (PS.mk toks false).l = false from h1] at hv; subst hv
    rw [if_neg (by rw [show takeB kNamespace (PS.mk toks false).l = false from h1]; exact Bool.false_ne_true)] at hres
    rw [tk_no (p := ⟨toks, false⟩) h1] at hr7 hf7 hb7
    refine call_m1 rfl rfl rfl rfl k69 (fun g' W8 l8 how => (rtake_x N kScope ⟨toks, false⟩ g' W8 ⟨A7, c7, (tk_no (p := ⟨toks, false⟩) h1) ▸ how, hr7.mono l8, hf7, hb7⟩).mono fun v W9 ⟨hv, A9, c9, ho9, hr9, hf9, hb9⟩ l9 => ⟨_, ho9, ?_⟩)
    rcases Bool.eq_false_or_eq_true (takeB kScope toks) with h2 | h2
    · rw [show takeB kScope (PS.mk toks false).l = true from h2] at hv; subst hv
      rw [if_pos (show takeB kScope (PS.mk toks false).l = true from h2), ← tk_yes (p := ⟨toks, false⟩) h2] at hres
      have ht7 : (tkS kScope ⟨toks, false⟩).l.length + 1 = toks.length := by rw [tk_yes (p := ⟨toks, false⟩) h2]; exact take_pos (p := ⟨toks, false⟩) h2
      have hk6 := scope_le (tkS kScope ⟨toks, false⟩)
      refine call_m1 rfl rfl rfl rfl k71 (fun g' Wb lb how => (rscope_x N (tkS kScope ⟨toks, false⟩) g' Wb ⟨A9, c9, how, hr9.mono lb, hf9, hb9⟩).mono fun v Wc ⟨hv, Ac, cc, hoc, hrc, hfc, hbc⟩ lc => ⟨_, hoc, ?_⟩)
      obtain ⟨so, hso, rfl⟩ : ∃ so, (scopeN (tkS kScope ⟨toks, false⟩)).1 = so ∧ v = .agg ⟨scopeC so⟩ := ⟨_, rfl, hv⟩
      rw [hso] at hres
      refine ⟨rfl, .inl fun bd Wd ld hrd => ⟨1, _, scopeC so, rfl, rfl, rfl, rfl, rfl, scopeC_one _, fun _ => ⟨_, rfl, hrd.o⟩, by show sc.length + 1 ≤ maxLen; omega, by show (sc.length + 1) * 64 ≤ 140737488355328; omega, rfl, @fun Ae ce _ => ?_⟩⟩
      refine ⟨⟨sp, sc ++ [so], css, (scopeN (tkS kScope ⟨toks, false⟩)).2, Ac, cc, sA, sn, Ae, ce⟩, all_sl trivial, ?_, ole_eq ?_, ⟨hL.mono SpR.mono (l6.trans (l7.trans (l8.trans (l9.trans (lb.trans (lc.trans ld)))))), hrc.mono ld, hfc, hbc, ?_, m', ?_, hres⟩, ?_⟩
      · dsimp only; rw [List.length_append]; (first | done | rfl)
      · dsimp only; rw [List.length_append, flat_snoc]; (first | done | rfl)
      · simp only [List.length_append, List.length_cons, List.length_nil]; omega
      · dsimp only; omega
      · dsimp only; omega
    rw [show takeB kScope (PS.mk toks false).l = false from h2] at hv; subst hv
    rw [if_neg (by rw [show takeB kScope (PS.mk toks false).l = false from h2]; exact Bool.false_ne_true)] at hres
    rw [tk_no (p := ⟨toks, false⟩) h2] at hr9 hf9 hb9
    refine call_m1 rfl rfl rfl rfl k72 (fun g' Wa la how => (rfail_x N ⟨toks, false⟩ g' Wa ⟨A9, c9, (tk_no (p := ⟨toks, false⟩) h2) ▸ how, hr9.mono la, hf9, hb9⟩).mono fun v Wb ⟨Ab, cb, hob, hrb, hfb, hbb⟩ lb => ⟨_, hob, ?_⟩)
    refine ⟨⟨sp, sc, css, PS.bad, Ab, cb, sA, sn, kA, kn⟩, all_sl trivial, rfl, ole_refl _, ⟨hL.mono SpR.mono (l6.trans (l7.trans (l8.trans (l9.trans (la.trans lb))))), hrb, hfb, hbb, ?_, m', Nat.zero_le _, hres⟩, ?_⟩
    · show sp.length + sc.length + 0 ≤ 16384; omega
    · show 0 < toks.length; omega
end Go.Proofs.YtcgbcbdgjhnlaaaGreat
