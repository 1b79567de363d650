/- Layer 18 (strata), plain: what the program reckons. No program here. -/
import Derived.Test.YtcgbcbdgjhnlaaaVPG
namespace Go.Proofs.Ytcgbcbdgjhnlaaa
open Go.RowKit

abbrev Spot := Nat × Nat
def relAt (c : ConfS) (s : Spot) : Option RelS := (c.spaces[s.1]?).bind fun x => x.rels[s.2]?
def nameAt (c : ConfS) (i : Nat) : List UInt8 := ((c.spaces[i]?).map (·.name)).getD []
/-- Where relations are declared, by their names, in order. -/
def relKeys (nm : List UInt8) (i : Nat) : Nat → List RelS → List (TypS × Spot)
  | _, [] => []
  | k, r :: rs => (⟨nm, r.name⟩, (i, k)) :: relKeys nm i (k + 1) rs
def spaceKeys : Nat → List SpaceS → List (TypS × Spot)
  | _, [] => []
  | i, s :: r => relKeys s.name i 0 s.rels ++ spaceKeys (i + 1) r
def keysS (c : ConfS) : List (TypS × Spot) := spaceKeys 0 c.spaces
def findK (ks : List (TypS × Spot)) (t : TypS) : Option Spot := (ks.find? fun p => decide (p.1 = t)).map (·.2)
def findS (c : ConfS) (t : TypS) : Option Spot := findK (keysS c) t
def onceS (c : ConfS) : Bool := decide ((c.spaces.map (·.name)).Nodup) && decide (((keysS c).map (·.1)).Nodup) && decide ((c.scopes.map (·.name)).Nodup)
theorem mem_relKeys {nm : List UInt8} {i : Nat} : ∀ {k : Nat} {rs : List RelS} {t : TypS} {s : Spot}, (t, s) ∈ relKeys nm i k rs → ∃ j r, s = (i, k + j) ∧ rs[j]? = some r ∧ t = ⟨nm, r.name⟩
  | _, [], _, _, h => by cases h
  | k, r :: rs, t, s, h => by
    rcases List.mem_cons.1 h with h | h
    · simp only [Prod.mk.injEq] at h
      exact ⟨0, r, h.2, rfl, h.1⟩
    · obtain ⟨j, r', h1, h2, h3⟩ := mem_relKeys h
      exact ⟨j + 1, r', by rw [h1, show k + 1 + j = k + (j + 1) by omega], h2, h3⟩
theorem mem_spaceKeys : ∀ {i : Nat} {ss : List SpaceS} {t : TypS} {s : Spot}, (t, s) ∈ spaceKeys i ss → ∃ j sp r, s.1 = i + j ∧ ss[j]? = some sp ∧ sp.rels[s.2]? = some r ∧ t = ⟨sp.name, r.name⟩
  | _, [], _, _, h => by cases h
  | i, x :: ss, t, s, h => by
    rcases List.mem_append.1 h with h | h
    · obtain ⟨j, r, h1, h2, h3⟩ := mem_relKeys h
      subst h1
      exact ⟨0, x, r, rfl, rfl, by rw [Nat.zero_add]; exact h2, h3⟩
    · obtain ⟨j, sp, r, h1, h2, h3, h4⟩ := mem_spaceKeys h
      exact ⟨j + 1, sp, r, by omega, h2, h3, h4⟩
theorem findS_at {c : ConfS} {t : TypS} {s : Spot} (h : findS c t = some s) : ∃ sp r, c.spaces[s.1]? = some sp ∧ sp.rels[s.2]? = some r ∧ t = ⟨sp.name, r.name⟩ := by
  unfold findS findK at h
  obtain ⟨p, hp, rfl⟩ := Option.map_eq_some_iff.1 h
  have h1 := List.mem_of_find?_eq_some hp
  have h2 : p.1 = t := by simpa using List.find?_some hp
  obtain ⟨pt, ps⟩ := p
  obtain ⟨j, sp, r, e1, e2, e3, e4⟩ := mem_spaceKeys h1
  have e1 : ps.1 = j := by omega
  exact ⟨sp, r, by rw [e1]; exact e2, e3, by rw [← h2]; exact e4⟩
theorem findS_rel {c : ConfS} {t : TypS} {s : Spot} (h : findS c t = some s) : ∃ r, relAt c s = some r := by
  obtain ⟨sp, r, h1, h2, _⟩ := findS_at h
  exact ⟨r, by unfold relAt; rw [h1]; exact h2⟩

def setsS (l : List TypS) : List TypS := l.filter fun t => !decide (t.space = [])
theorem setsS_take {l : List TypS} {i : Nat} {t : TypS} (h : l[i]? = some t) : setsS (l.take (i + 1)) = setsS (l.take i) ++ (if t.space = [] then [] else [t]) := by
  unfold setsS
  rw [List.take_add_one, h, List.filter_append]
  congr 1
  by_cases e : t.space = [] <;> simp [e]
def findUp (c : ConfS) (l : List TypS) : Nat → Option (List Spot)
  | 0 => some []
  | i + 1 => match findUp c l i, l[i]? with
    | some out, some t => match findS c t with | some s => some (out ++ [s]) | none => none
    | some out, none => some out
    | none, _ => none
def findAll (c : ConfS) (l : List TypS) : Option (List Spot) := findUp c l l.length
def arrowT (q : RelS) (thn : List UInt8) : List TypS := (setsS q.types).map fun t => ⟨t.space, thn⟩
def namedT (c : ConfS) (s : Spot) (r : RelS) (n : NodeS) : Option (List TypS) :=
  if n.kind = 1 then some (setsS r.types) else if n.kind = 2 then some [⟨nameAt c s.1, n.rel⟩] else if n.kind = 3 then
    match findS c ⟨nameAt c s.1, n.rel⟩ with
    | none => none
    | some p => match relAt c p with | none => none | some q => if arrowT q n.thn = [] then none else some (arrowT q n.thn)
  else some []
def namedS (c : ConfS) (s : Spot) (r : RelS) (n : NodeS) : Option (List Spot) := match namedT c s r n with | none => none | some l => findAll c l
def absStep (n : NodeS) (i : Nat) (out : List Bool) : List Bool :=
  if 4 ≤ n.kind then (out.set n.a.toNat (out.getD i false)).set n.b.toNat ((out.set n.a.toNat (out.getD i false)).getD i false || decide (n.kind = 6)) else out
def absGo (l : List NodeS) : Nat → List Bool → List Bool
  | 0, out => out
  | i + 1, out => absGo l i (match l[i]? with | some n => absStep n i out | none => out)
def absS (l : List NodeS) : List Bool := absGo l l.length (List.replicate l.length false)
theorem absStep_len (n : NodeS) (i : Nat) (out : List Bool) : (absStep n i out).length = out.length := by unfold absStep; split <;> simp
structure EdgeS where
  fs : Spot
  ts : Spot
  ab : Bool
def edgesUp (c : ConfS) (s : Spot) (r : RelS) : Nat → Option (List EdgeS)
  | 0 => some []
  | i + 1 => match edgesUp c s r i, r.nodes[i]? with
    | some out, some n => match namedS c s r n with | some l => some (out ++ l.map fun t => ⟨s, t, (absS r.nodes).getD i false⟩) | none => none
    | some out, none => some out
    | none, _ => none
def edgesS (c : ConfS) (s : Spot) : Option (List EdgeS) := match relAt c s with
  | none => none
  | some r => match findAll c (setsS r.types) with | none => none | some _ => edgesUp c s r r.nodes.length
def relsUp (c : ConfS) (i : Nat) : Nat → Option (List EdgeS)
  | 0 => some []
  | k + 1 => match relsUp c i k, edgesS c (i, k) with
    | some out, some l => some (out ++ l)
    | _, _ => none
def spacesUp (c : ConfS) : Nat → Option (List EdgeS)
  | 0 => some []
  | i + 1 => match spacesUp c i, c.spaces[i]? with
    | some out, some s => match relsUp c i s.rels.length with | some l => some (out ++ l) | none => none
    | some out, none => some out
    | none, _ => none
def scopeKey (s : ScopeS) : TypS := ⟨s.object.space, s.rel⟩
def allE (c : ConfS) : Option (List EdgeS) := match spacesUp c c.spaces.length with
  | none => none
  | some l => if c.scopes.all (fun s => (findS c (scopeKey s)).isSome) = true then some l else none

abbrev Num := List (List Nat)
def getN (n : Num) (s : Spot) : Nat := (((n[s.1]?).getD [])[s.2]?).getD 0
def setN (n : Num) (s : Spot) (x : Nat) : Num := n.set s.1 (((n[s.1]?).getD []).set s.2 x)
def leastN (n : Num) (e : EdgeS) : Nat := getN n e.ts + (if e.ab = true then 1 else 0)
def riseN (n : Num) (e : EdgeS) : Num × Bool := if leastN n e ≤ getN n e.fs then (n, false) else (setN n e.fs (leastN n e), true)
def roundUp (l : List EdgeS) (n : Num) : Nat → Num × Bool
  | 0 => (n, false)
  | i + 1 => match l[i]? with
    | some e => ((riseN (roundUp l n i).1 e).1, (riseN (roundUp l n i).1 e).2 || (roundUp l n i).2)
    | none => roundUp l n i
def settleGo (l : List EdgeS) : Nat → Num → Option Num
  | 0, _ => none
  | f + 1, n => if (roundUp l n l.length).2 = true then settleGo l f (roundUp l n l.length).1 else some (roundUp l n l.length).1
def zeroN (c : ConfS) : Num := c.spaces.map fun s => List.replicate s.rels.length 0
def settleS (c : ConfS) (l : List EdgeS) : Option Num := settleGo l ((keysS c).length + 1) (zeroN c)
def numbersS (c : ConfS) : Num × Int :=
  if rightN c = false then ([], 4) else if onceS c = false then ([], 10) else match allE c with
    | none => ([], 14)
    | some l => match settleS c l with | none => ([], 15) | some n => (n, 0)
end Go.Proofs.Ytcgbcbdgjhnlaaa

