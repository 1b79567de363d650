/- Layer 18 (strata), plain: what the program reckons. No program here. -/
import Derived.Test.YtcgbcbdgjhnlaaaGreatXPG
import Derived.Test.YtcgbcbdgjhnlaaaGreatXPB
import Derived.Test.YtcgbcbdgjhnlaaaGreatXCodeZ
import Derived.Maps.OwnSet
import Derived.Maps.OwnOps
import Derived.Maps.Views
import Derived.DeepKeys4
import Derived.ChangeKeys
namespace Go.Proofs.YtcgbcbdgjhnlaaaGreat
open Go.RowKit

abbrev Spot := Nat × Nat
def relAt (c : ConfS) (s : Spot) : Option RelS := (c.spaces[s.1]?).bind fun x => x.rels[s.2]?
def nameAt (c : ConfS) (i : Nat) : List UInt8 := ((c.spaces[i]?).map (·.name)).getD []
/-- Where relations are declared, by their names, in order. -/
def relKeys (nm : List UInt8) (i : Nat) : Nat → List RelS → List (TypS × Spot)
  | _, [] => []
  | k, r :: rs => (⟨nm, r.name⟩, (i, k)) :: relKeys nm i (k + 1) rs
def spaceKeys : Nat → List SpaceS → List (TypS × Spot)
  | _, [] => []
  | i, s :: r => relKeys s.name i 0 s.rels ++ spaceKeys (i + 1) r
def keysS (c : ConfS) : List (TypS × Spot) := spaceKeys 0 c.spaces
def findK (ks : List (TypS × Spot)) (t : TypS) : Option Spot := (ks.find? fun p => decide (p.1 = t)).map (·.2)
def findS (c : ConfS) (t : TypS) : Option Spot := findK (keysS c) t
def onceS (c : ConfS) : Bool := decide ((c.spaces.map (·.name)).Nodup) && decide (((keysS c).map (·.1)).Nodup) && decide ((c.scopes.map (·.name)).Nodup)
theorem mem_relKeys {nm : List UInt8} {i : Nat} : ∀ {k : Nat} {rs : List RelS} {t : TypS} {s : Spot}, (t, s) ∈ relKeys nm i k rs → ∃ j r, s = (i, k + j) ∧ rs[j]? = some r ∧ t = ⟨nm, r.name⟩
  | _, [], _, _, h => by cases h
  | k, r :: rs, t, s, h => by
    rcases List.mem_cons.1 h with h | h
    · simp only [Prod.mk.injEq] at h
      exact ⟨0, r, h.2, rfl, h.1⟩
    · obtain ⟨j, r', h1, h2, h3⟩ := mem_relKeys h
      exact ⟨j + 1, r', by rw [h1, show k + 1 + j = k + (j + 1) by omega], h2, h3⟩
theorem mem_spaceKeys : ∀ {i : Nat} {ss : List SpaceS} {t : TypS} {s : Spot}, (t, s) ∈ spaceKeys i ss → ∃ j sp r, s.1 = i + j ∧ ss[j]? = some sp ∧ sp.rels[s.2]? = some r ∧ t = ⟨sp.name, r.name⟩
  | _, [], _, _, h => by cases h
  | i, x :: ss, t, s, h => by
    rcases List.mem_append.1 h with h | h
    · obtain ⟨j, r, h1, h2, h3⟩ := mem_relKeys h
      subst h1
      exact ⟨0, x, r, rfl, rfl, by rw [Nat.zero_add]; exact h2, h3⟩
    · obtain ⟨j, sp, r, h1, h2, h3, h4⟩ := mem_spaceKeys h
      exact ⟨j + 1, sp, r, by omega, h2, h3, h4⟩
theorem findS_at {c : ConfS} {t : TypS} {s : Spot} (h : findS c t = some s) : ∃ sp r, c.spaces[s.1]? = some sp ∧ sp.rels[s.2]? = some r ∧ t = ⟨sp.name, r.name⟩ := by
  unfold findS findK at h
  obtain ⟨p, hp, rfl⟩ := Option.map_eq_some_iff.1 h
  have h1 := List.mem_of_find?_eq_some hp
  have h2 : p.1 = t := by simpa using List.find?_some hp
  obtain ⟨pt, ps⟩ := p
  obtain ⟨j, sp, r, e1, e2, e3, e4⟩ := mem_spaceKeys h1
  have e1 : ps.1 = j := by omega
  exact ⟨sp, r, by rw [e1]; exact e2, e3, by rw [← h2]; exact e4⟩
theorem findS_rel {c : ConfS} {t : TypS} {s : Spot} (h : findS c t = some s) : ∃ r, relAt c s = some r := by
  obtain ⟨sp, r, h1, h2, _⟩ := findS_at h
  exact ⟨r, by unfold relAt; rw [h1]; exact h2⟩

def setsS (l : List TypS) : List TypS := l.filter fun t => !decide (t.space = [])
theorem setsS_take {l : List TypS} {i : Nat} {t : TypS} (h : l[i]? = some t) : setsS (l.take (i + 1)) = setsS (l.take i) ++ (if t.space = [] then [] else [t]) := by
  unfold setsS
  rw [List.take_add_one, h, List.filter_append]
  congr 1
  by_cases e : t.space = [] <;> simp [e]
def findUp (c : ConfS) (l : List TypS) : Nat → Option (List Spot)
  | 0 => some []
  | i + 1 => match findUp c l i, l[i]? with
    | some out, some t => match findS c t with | some s => some (out ++ [s]) | none => none
    | some out, none => some out
    | none, _ => none
def findAll (c : ConfS) (l : List TypS) : Option (List Spot) := findUp c l l.length
def arrowT (q : RelS) (thn : List UInt8) : List TypS := (setsS q.types).map fun t => ⟨t.space, thn⟩
def namedT (c : ConfS) (s : Spot) (r : RelS) (n : NodeS) : Option (List TypS) :=
  if n.kind = 1 then some (setsS r.types) else if n.kind = 2 then some [⟨nameAt c s.1, n.rel⟩] else if n.kind = 3 then
    match findS c ⟨nameAt c s.1, n.rel⟩ with
    | none => none
    | some p => match relAt c p with | none => none | some q => if arrowT q n.thn = [] then none else some (arrowT q n.thn)
  else some []
def namedS (c : ConfS) (s : Spot) (r : RelS) (n : NodeS) : Option (List Spot) := match namedT c s r n with | none => none | some l => findAll c l
def absStep (n : NodeS) (i : Nat) (out : List Bool) : List Bool :=
  if 4 ≤ n.kind then (out.set n.a.toNat (out.getD i false)).set n.b.toNat ((out.set n.a.toNat (out.getD i false)).getD i false || decide (n.kind = 6)) else out
def absGo (l : List NodeS) : Nat → List Bool → List Bool
  | 0, out => out
  | i + 1, out => absGo l i (match l[i]? with | some n => absStep n i out | none => out)
def absS (l : List NodeS) : List Bool := absGo l l.length (List.replicate l.length false)
theorem absStep_len (n : NodeS) (i : Nat) (out : List Bool) : (absStep n i out).length = out.length := by unfold absStep; split <;> simp
structure EdgeS where
  fs : Spot
  ts : Spot
  ab : Bool
def edgesUp (c : ConfS) (s : Spot) (r : RelS) : Nat → Option (List EdgeS)
  | 0 => some []
  | i + 1 => match edgesUp c s r i, r.nodes[i]? with
    | some out, some n => match namedS c s r n with | some l => some (out ++ l.map fun t => ⟨s, t, (absS r.nodes).getD i false⟩) | none => none
    | some out, none => some out
    | none, _ => none
def edgesS (c : ConfS) (s : Spot) : Option (List EdgeS) := match relAt c s with
  | none => none
  | some r => match findAll c (setsS r.types) with | none => none | some _ => edgesUp c s r r.nodes.length
def relsUp (c : ConfS) (i : Nat) : Nat → Option (List EdgeS)
  | 0 => some []
  | k + 1 => match relsUp c i k, edgesS c (i, k) with
    | some out, some l => some (out ++ l)
    | _, _ => none
def spacesUp (c : ConfS) : Nat → Option (List EdgeS)
  | 0 => some []
  | i + 1 => match spacesUp c i, c.spaces[i]? with
    | some out, some s => match relsUp c i s.rels.length with | some l => some (out ++ l) | none => none
    | some out, none => some out
    | none, _ => none
def scopeKey (s : ScopeS) : TypS := ⟨s.object.space, s.rel⟩
def allE (c : ConfS) : Option (List EdgeS) := match spacesUp c c.spaces.length with
  | none => none
  | some l => if c.scopes.all (fun s => (findS c (scopeKey s)).isSome) = true then some l else none

abbrev Num := List (List Nat)
def getN (n : Num) (s : Spot) : Nat := (((n[s.1]?).getD [])[s.2]?).getD 0
def setN (n : Num) (s : Spot) (x : Nat) : Num := n.set s.1 (((n[s.1]?).getD []).set s.2 x)
def leastN (n : Num) (e : EdgeS) : Nat := getN n e.ts + (if e.ab = true then 1 else 0)
def riseN (n : Num) (e : EdgeS) : Num × Bool := if leastN n e ≤ getN n e.fs then (n, false) else (setN n e.fs (leastN n e), true)
def roundUp (l : List EdgeS) (n : Num) : Nat → Num × Bool
  | 0 => (n, false)
  | i + 1 => match l[i]? with
    | some e => ((riseN (roundUp l n i).1 e).1, (riseN (roundUp l n i).1 e).2 || (roundUp l n i).2)
    | none => roundUp l n i
def settleGo (l : List EdgeS) : Nat → Num → Option Num
  | 0, _ => none
  | f + 1, n => if (roundUp l n l.length).2 = true then settleGo l f (roundUp l n l.length).1 else some (roundUp l n l.length).1
def zeroN (c : ConfS) : Num := c.spaces.map fun s => List.replicate s.rels.length 0
def settleS (c : ConfS) (l : List EdgeS) : Option Num := settleGo l ((keysS c).length + 1) (zeroN c)
def numbersS (c : ConfS) : Num × Int :=
  if rightN c = false then ([], 4) else if onceS c = false then ([], 10) else match allE c with
    | none => ([], 14)
    | some l => match settleS c l with | none => ([], 15) | some n => (n, 0)
end Go.Proofs.YtcgbcbdgjhnlaaaGreat

/- A block's condition is its body's. -/
namespace Go.Proofs.YtcgbcbdgjhnlaaaGreat
open Go.RowKit

section
variable {P : Program} {B : Base}
def blkK (id : Nat) (K : Ex → Fr → GS → Prop) : Ex → Fr → GS → Prop
  | .normal, f, S => K .normal f S
  | .exit i, f, S => bif Nat.beq i id then K .normal f S else K (.exit i) f S
  | .ret, f, S => K .ret f S
theorem vc_block {f : Fr} {S : GS} {K : Ex → Fr → GS → Prop} {a : MC} {id : Nat} (h : vc P B f S (blkK id K) a) : vc P B f S K (.block id a) := by
  refine vc_mono (c := a) (fun e f' S' hk => ?_) h
  cases e with
  | normal => exact hk
  | exit i => exact hk
  | ret => exact hk
end
end Go.Proofs.YtcgbcbdgjhnlaaaGreat

/- Layer 18 (strata), walked: maps that stand; the index; relations, sets, absences. -/
namespace Go.Proofs.YtcgbcbdgjhnlaaaGreat
open Go.RowKit Go.Maps

def spotC (s : Spot) : List Value := [.int .i64 s.1, .int .i64 s.2]
def spotR : Value → Option (DataW Unit × List MemPlace)
  | .agg ⟨[.int .i64 a, .int .i64 b]⟩ => some (.agg [.lit (.int .i64 a), .lit (.int .i64 b)], [])
  | _ => none
def spotD (s : Spot) : DataW Unit := .agg [.lit (.int .i64 s.1), .lit (.int .i64 s.2)]
theorem spotR_inv {v : Value} {s : Spot} {ps : List MemPlace} (h : spotR v = some (spotD s, ps)) : v = .agg ⟨spotC s⟩ := by
  unfold spotR at h
  split at h
  · simp only [spotD, Option.some.injEq, Prod.mk.injEq, DataW.agg.injEq, List.cons.injEq, DataW.lit.injEq, Lit.int.injEq, true_and, and_true] at h
    obtain ⟨⟨rfl, rfl⟩, _⟩ := h
    rfl
  · cases h
def keyL (t : TypS) : Lit := .string (keyBytes [.string t.space, .string t.rel])
theorem keyed_t : Keyed Tryz.prog 97 := Keyed.of_law (deep_law_laid (by kernel_rfl : laidOutB Tryz.prog = true) (m := 10) (by decide) (of_decide_eq_true (by kernel_rfl)) (by kernel_rfl) (by kernel_rfl))
theorem types_succ : ∃ m, Tryz.prog.types.size = m + 1 := Nat.exists_eq_succ_of_ne_zero (Nat.ne_of_gt (of_decide_eq_true (by kernel_rfl : decide (0 < Tryz.prog.types.size) = true)))
theorem cells_ty : Tryz.prog.cellsOf 97 = 2 := by kernel_rfl
theorem cells_st : Tryz.prog.cellsOf 9 = 1 := by kernel_rfl
theorem keyty_t : Tryz.prog.keyType 97 = true := by kernel_rfl
theorem lits_s (m : Nat) (l : List UInt8) (h : l.length ≤ maxLen) : Tryz.prog.keyLits (m + 1) 9 [strV l] = some [.string l] := by
  unfold Program.keyLits
  simp only [Tryz.underlying9, strV]
  rw [if_pos (show (⟨⟨l⟩⟩ : ByteArray).size ≤ maxLen from h)]
theorem lits_t (t : TypS) (h : smT t) : Tryz.prog.keyLits (Tryz.prog.types.size + 1) 97 (typC t) = some [.string t.space, .string t.rel] := by
  obtain ⟨m, hm⟩ := types_succ
  rw [hm]
  unfold Program.keyLits
  simp only [Tryz.underlying97, typC]
  rw [if_pos ⟨by rw [cells_ty]; rfl, by kernel_rfl⟩]
  simp [List.mapM_cons, cells_st, lits_s m _ h.1, lits_s m _ h.2]
theorem keyOf_t (t : TypS) (h : smT t) : keyOf Tryz.prog 97 (.agg ⟨typC t⟩) = some (keyL t) := by
  unfold keyOf
  simp only [Tryz.underlying97]
  rw [if_pos (by simp [keyty_t, Value.formed, Tryz.underlying97, cells_ty, typC])]
  show Option.map _ (Tryz.prog.keyLits (Tryz.prog.types.size + 1) 97 (typC t)) = _
  rw [lits_t t h]; rfl
theorem keyL_inj {t u : TypS} (ht : smT t) (hu : smT u) (h : keyL t = keyL u) : t = u := by
  unfold keyL at h
  have h : keyBytes [.string t.space, .string t.rel] = keyBytes [.string u.space, .string u.rel] := by simpa using h
  have := keyLits_inj (lits_t t ht) (lits_t u hu) h
  simp only [List.cons.injEq, Lit.string.injEq, and_true] at this
  cases t
  cases u
  simp only [TypS.mk.injEq]
  exact this

def AtM (W : PW) (g : Nat) (c : ConfS) : Prop := W.F g ∧ ∃ D : DataW Unit, W.w.ownsMap (H := Unit) Tryz.prog 97 spotR g (keysS c).length D ∧ Maps.size D = (keysS c).length ∧
  ∀ t : TypS, smT t → Maps.has D (keyL t) = (findS c t).isSome ∧ D.atKey (keyL t) (spotD (0, 0)) = spotD ((findS c t).getD (0, 0))
theorem AtM.mono {W W' : PW} {g : Nat} {c : ConfS} (h : AtM W g c) (l : W.Le W') : AtM W' g c := by
  obtain ⟨hA, D, ⟨es, clock, k1, k2⟩, h2, h3⟩ := h
  exact ⟨l.al _ hA, D, ⟨es, clock, (l.bl _ hA).trans k1, k2⟩, h2, h3⟩
theorem zero_spot (w : World) : (zeroValue 137).run Tryz.prog w = .ok (.agg ⟨spotC (0, 0)⟩) w := by kernel_rfl
section
variable {B : Base}
theorem raw_look {o : Oper} {m x : Operand} {g : Nat} {t : TypS} {c : ConfS} {f : Fr} {prot : List Nat} {S : GS} {K : GV → GS → Prop} (ho : o.op = .lookup 132 m x true) (hm : evG f m = .v (.map (some g))) (hx : ∀ ρ, (evG f x).real ρ = .agg ⟨typC t⟩) (ht : smT t) (hM : AtM S.W g c)
    (hK : K (.v (.tuple ⟨[.agg ⟨spotC ((findS c t).getD (0, 0))⟩, .bool (findS c t).isSome]⟩)) S) : RawVC Tryz.prog B o f prot S K := by
  refine ⟨fun ρ w ev hev hst => ⟨.v (.tuple ⟨[.agg ⟨spotC ((findS c t).getD (0, 0))⟩, .bool (findS c t).isSome]⟩), S, ρ, w, .inl ?_, fun _ _ => rfl, Grow.refl _ _, trivial, hst, hK⟩⟩
  obtain ⟨dst, op, type, pos, after, guard⟩ := o
  obtain rfl : op = .lookup 132 m x true := ho
  have e1 : ev m = .map (some g) := by rw [hev, hm]; rfl
  have e2 : ev x = .agg ⟨typC t⟩ := by rw [hev, hx]
  obtain ⟨hA, D, ⟨es, clock, k1, k2⟩, _, h3⟩ := hM
  have hown : w.ownsMap (H := Unit) Tryz.prog 97 spotR g (keysS c).length D := ⟨es, clock, (hst.vblock _ (S.W.fa _ hA)).trans k1, k2⟩
  obtain ⟨a1, a2⟩ := h3 t ht
  obtain ⟨v, ps, hrun, hv⟩ := hown.look_ok keyed_t Tryz.underlying132 (zero_spot w) (zd := spotD (0, 0)) (zp := []) rfl (keyOf_t t ht)
  rw [a2] at hv
  rw [spotR_inv hv, a1] at hrun
  simp only [execOp, e1, e2, Sem.run_bind, hrun, Result.andThen_ok, Sem.run_pure]
  rfl
theorem raw_mlen {o : Oper} {x : Operand} {g : Nat} {c : ConfS} {f : Fr} {prot : List Nat} {S : GS} {K : GV → GS → Prop} (ho : o.op = .call ⟨.builtin .len, ⟨[x]⟩, ⟨[132]⟩⟩) (hx : evG f x = .v (.map (some g))) (hM : AtM S.W g c)
    (hK : K (.v (.int .i64 (keysS c).length)) S) : RawVC Tryz.prog B o f prot S K := by
  refine ⟨fun ρ w ev hev hst => ⟨.v (.int .i64 (keysS c).length), S, ρ, w, .inl ?_, fun _ _ => rfl, Grow.refl _ _, trivial, hst, hK⟩⟩
  obtain ⟨dst, op, type, pos, after, guard⟩ := o
  obtain rfl : op = .call ⟨.builtin .len, ⟨[x]⟩, ⟨[132]⟩⟩ := ho
  have e1 : ev x = .map (some g) := by rw [hev, hx]; rfl
  obtain ⟨hA, D, ⟨es, clock, k1, k2⟩, h2, _⟩ := hM
  have hown : w.ownsMap (H := Unit) Tryz.prog 97 spotR g (keysS c).length D := ⟨es, clock, (hst.vblock _ (S.W.fa _ hA)).trans k1, k2⟩
  have := hown.len Tryz.underlying132 type
  rw [h2] at this
  simp [execOp, resolve, invoke, builtin, e1, this, Result.andThen]
  rfl
end

def Idx (W : PW) (a : Addr) (c : ConfS) : Prop := ∃ (sv kv : Value) (g : Nat), Rds W a [sv, kv, .map (some g)] ∧ RL SpR 2 W sv c.spaces ∧ RP scopeC W kv c.scopes ∧ AtM W g c
theorem Idx.mono {W W' : PW} {a : Addr} {c : ConfS} (h : Idx W a c) (l : W.Le W') : Idx W' a c := by
  obtain ⟨sv, kv, g, h1, h2, h3, h4⟩ := h
  exact ⟨sv, kv, g, Rds.mono h1 l, h2.mono SpR.mono l, h3.mono l, h4.mono l⟩
end Go.Proofs.YtcgbcbdgjhnlaaaGreat

/- Layer 18 (strata), walked: a relation by its place; the types that are sets; absences. -/
namespace Go.Proofs.YtcgbcbdgjhnlaaaGreat
open Go.RowKit

theorem lt9 {n c : Nat} (h1 : n ≤ c) (h2 : c ≤ maxLen) : n ≤ 9223372036854775807 := Nat.le_trans h1 h2
theorem rd_ff {W : PW} {a : Addr} {cs : List Value} (h : Rds W a cs) {i j : Nat} {v : Value} (hv : cs[i + j]? = some v) : Rd W ((a.add i).add j) v := by
  rw [Addr.add_add]
  exact h _ _ hv
set_option maxHeartbeats 8000000 in
theorem rel_x (c : ConfS) (s : Spot) (r : RelS) (hr : relAt c s = some r) (a : Addr) (W : PW) (h : Idx W a c) : CallsX Tryz.prog 84 ⟨[.pointer (some a), .agg ⟨spotC s⟩]⟩ [] W fun v W' => ∃ cs, v = .agg ⟨cs⟩ ∧ RelR W' r cs := by
  obtain ⟨sv, kv, g, h1, h2, h3, h4⟩ := h
  unfold relAt at hr
  obtain ⟨sp, hsp, hr⟩ := Option.bind_eq_some_iff.1 hr
  obtain ⟨A0, c0, rfl, q1, q2⟩ := h2.form
  have hi := (List.getElem?_eq_some_iff.1 hsp).1
  have hk := (List.getElem?_eq_some_iff.1 hr).1
  refine pureX hmix Tryz.func84 r84 (by kernel_rfl) [.pointer (some a), .agg ⟨spotC s⟩] rfl ?_
  obtain ⟨a0, rfl, sp', cs0, hx0, hc0, hR0, hr0, _⟩ := RL.at SpR.mono h2 (PW.Le.refl W) (j := (s.1 : Int)) ⟨by omega, by omega⟩
  obtain rfl : sp = sp' := Option.some.inj (hsp.symm.trans hx0)
  obtain ⟨rv, rfl, hrels⟩ := hR0
  obtain ⟨A1, c1, rfl, q3, q4⟩ := hrels.form
  obtain ⟨a1, rfl, r', cs1, hx1, hc1, hR1, _, hr1⟩ := RL.at RelR.mono hrels (PW.Le.refl W) (j := (s.2 : Int)) ⟨by omega, by omega⟩
  obtain rfl : r = r' := Option.some.inj (hr.symm.trans hx1)
  obtain ⟨tv, nv, rfl, hT, hN⟩ := hR1
  obtain ⟨A2, c2, rfl, _, _⟩ := hT.form
  obtain ⟨A3, c3, rfl, _, _⟩ := hN.form
  refine ⟨.slice (some a0) c.spaces.length c0, (rd_ff h1 (i := 0) (j := 0) rfl).o, ⟨by omega, by show (s.1 : Int) < c.spaces.length; omega⟩, _, rfl, .slice (some a1) sp.rels.length c1, (hr0 1 _ rfl).o, ⟨by omega, by show (s.2 : Int) < sp.rels.length; omega⟩, _, rfl, [strV r.name, .slice A2 r.types.length c2, .slice A3 r.nodes.length c3], rfl, Rds.o hr1, ?_⟩
  exact ret_plain rfl fun W' lw => ⟨_, rfl, _, _, rfl, hT.mono lw, hN.mono lw⟩
structure TySt where
  i : Nat
  A : Option Addr
  c : Nat
  l : List TypS
set_option maxHeartbeats 8000000 in
theorem sets_x (ts : List TypS) (u : Value) (W : PW) (hu : RP typC W u ts) (hts : ts.length ≤ 1000000) : CallsX Tryz.prog 85 ⟨[u]⟩ [] W fun v W' => RP typC W' v (setsS ts) := by
  obtain ⟨A0, c0, rfl, k1, k2⟩ := hu.form
  have hml := lt9 k1 k2
  refine pureNX hmix Tryz.func85 r85 (by kernel_rfl) [nilO 97 2] rfl [.slice A0 ts.length c0] rfl ?_
  refine ⟨TySt, fun t => [(3, .v (.slice t.A t.l.length t.c)), (8, .v (.int .i64 t.i))], fun _ => [], fun t => [typesO (.slice t.A t.l.length t.c) t.l], fun t _ => t.i ≤ ts.length ∧ t.l = setsS (ts.take t.i), fun t => ts.length - t.i, ⟨0, none, 0, []⟩,
    all_sl ⟨rfl, rfl, trivial⟩, rfl, ole_refl _, ⟨Nat.zero_le _, rfl⟩, loopOK (fun _ => ⟨⟨trivial, rfl⟩, ⟨trivial, rfl⟩, trivial⟩) (fun _ => rfl) (fun _ => rfl), ?_⟩
  rintro ⟨i, A, c, l⟩ W1 l1 ⟨hi, hl⟩ fr
  dsimp only at hi hl
  have hll : l.length ≤ i := by
    rw [hl]
    exact Nat.le_trans (List.length_filter_le _ _) (by rw [List.length_take]; omega)
  refine ⟨rfl, br_split (fun hq => ?_) (fun hq => ?_)⟩
  · have hq : (i : Int) < ts.length := hq
    have inc := (i64_in ((i : Int) + 1) ⟨by omega, by omega⟩).symm
    obtain ⟨a, rfl, x, hx, _, _, hr⟩ := RP.at (f := typC) (sz := 2) (fun _ => rfl) hu l1 (j := (i : Int)) ⟨by omega, by omega⟩
    have hx : ts[i]? = some x := hx
    have hnext := setsS_take hx
    obtain ⟨xs, xr⟩ := x
    refine ⟨⟨by omega, hq⟩, _, rfl, [strV xs, strV xr], rfl, Rds.o hr, br_nsplit (fun hn => ?_) (fun hn => ?_)⟩
    · have hn : ¬ xs = [] := hn
      rw [if_neg (show ¬ (TypS.mk xs xr).space = [] from hn)] at hnext
      refine ⟨rfl, .inl fun bd Wd ld hrd => ⟨0, _, typC ⟨xs, xr⟩, rfl, rfl, rfl, rfl, rfl, typC_one _, fun _ => ⟨_, rfl, hrd.o⟩, by show l.length + 1 ≤ maxLen; exact Nat.le_trans (show l.length + 1 ≤ ts.length by omega) (Nat.le_trans k1 k2), by show (l.length + 1) * 32 ≤ 140737488355328; omega, rfl, @fun Ae ce _ => ?_⟩⟩
      refine ⟨rfl, _, inc, ⟨i + 1, Ae, ce, l ++ [⟨xs, xr⟩]⟩, all_sl ⟨?_, rfl, trivial⟩, rfl, ole_eq ?_, ⟨by dsimp only; omega, by dsimp only; rw [hnext, hl]⟩, by dsimp only; omega⟩
      · dsimp only; rw [List.length_append]; rfl
      · dsimp only; rw [List.length_append]; exact congrArg (fun z => [z]) (typesO_snoc Ae ce l ⟨xs, xr⟩).symm
    · have hn : xs = [] := hn
      rw [if_pos (show (TypS.mk xs xr).space = [] from hn), List.append_nil] at hnext
      exact ⟨rfl, _, inc, ⟨i + 1, A, c, l⟩, all_sl ⟨rfl, rfl, trivial⟩, rfl, ole_refl _, ⟨by dsimp only; omega, by dsimp only; rw [hnext, hl]⟩, by dsimp only; omega⟩
  · have hq : ¬ (i : Int) < ts.length := hq
    rw [List.take_of_length_le (by omega)] at hl
    refine RetVC.freeze (fun _ hb => hb) (i := 0) rfl fun Wm lm hs0 => ?_
    exact ret_plain rfl fun W' l' => by rw [← hl]; exact SlRead.mono hs0 l'
end Go.Proofs.YtcgbcbdgjhnlaaaGreat

/- Layer 18 (strata), walked: absences. -/
namespace Go.Proofs.YtcgbcbdgjhnlaaaGreat
open Go.RowKit

def boolC (b : Bool) : List Value := [.bool b]
def boolO (g n : Nat) (l : List Bool) : Own := ⟨.slice (some ⟨g, 0, none⟩) n n, 4, 1, n, l.map Value.bool⟩
theorem set_map {α : Type} (f : α → Value) (v : α) : ∀ {l : List α} {j : Nat}, j < l.length → (l.map f).take j ++ [f v] ++ (l.map f).drop (j + 1) = (l.set j v).map f
  | [], _, h => absurd h (Nat.not_lt_zero _)
  | x :: l, 0, _ => by simp
  | x :: l, j + 1, h => by
    have := set_map f v (l := l) (j := j) (by simpa using h)
    simp at this ⊢
    exact this
theorem flat_bool (l : List Bool) : (l.map boolC).flatten = l.map Value.bool := by
  induction l with
  | nil => rfl
  | cons b l ih => rw [List.map_cons, List.flatten_cons, ih]; rfl
structure AbSt where
  z : Int
  m : Nat
  out : List Bool
theorem get_bool {l : List Bool} {i : Nat} (h : i < l.length) : (l.map Value.bool)[i]? = some (.bool (l.getD i false)) := by
  rw [List.getElem?_map, List.getElem?_eq_getElem h, List.getD_eq_getElem?_getD, List.getElem?_eq_getElem h]; rfl
set_option maxRecDepth 20000 in
set_option maxHeartbeats 16000000 in
theorem absences_x (l : List NodeS) (hl : l.length ≤ 1000000) (hN : ∀ n ∈ l, 4 ≤ n.kind → 0 ≤ n.a ∧ n.a < l.length ∧ 0 ≤ n.b ∧ n.b < l.length) (u : Value) (W : PW) (hu : RP nodeC W u l) :
    CallsX Tryz.prog 86 ⟨[u]⟩ [] W fun v W' => RP boolC W' v (absS l) := by
  have hmax : (100000000 : Nat) ≤ maxLen := by decide
  obtain ⟨A0, c0, rfl, k1, k2⟩ := hu.form
  obtain ⟨R, hR⟩ : ∃ R, absS l = R := ⟨_, rfl⟩
  rw [hR]
  obtain ⟨L, hL⟩ : ∃ L, l.length = L := ⟨_, rfl⟩
  rw [hL] at hu hl hN ⊢
  refine pureX hmix Tryz.func86 r86 (by kernel_rfl) [.slice A0 L c0] rfl ?_
  refine ⟨⟨by omega, by omega, by omega, by omega⟩, fun g => ⟨rfl, (L : Int) - 1, (i64_in _ ⟨by omega, by omega⟩).symm, ?_⟩⟩
  refine ⟨AbSt, fun t => [(4, .v (.int .i64 t.z))], fun _ => [], fun t => [boolO g L t.out], fun t _ => t.z = (t.m : Int) - 1 ∧ t.m ≤ L ∧ t.out.length = L ∧ absGo l t.m t.out = R, fun t => t.m, ⟨(L : Int) - 1, L, List.replicate L false⟩,
    all_sl ⟨rfl, trivial⟩, rfl, ole_eq ?_, ⟨rfl, Nat.le_refl _, List.length_replicate, by rw [← hR, ← hL]; rfl⟩, loopOK (fun _ => ⟨⟨trivial, rfl⟩, trivial⟩) (fun _ => rfl) (fun _ => rfl), ?_⟩
  · have e : (List.replicate L [Value.bool false]).flatten = (List.replicate L false).map Value.bool := by
      rw [List.map_replicate]
      clear hR hL hu hl hN k1 hmax
      induction L with
      | zero => rfl
      | succ n ih => rw [List.replicate_succ, List.flatten_cons, ih]; rfl
    exact congrArg (fun cs => [(⟨.slice (some ⟨g, 0, none⟩) L L, 4, 1, L, cs⟩ : Own)]) e
  rintro ⟨z, m, out⟩ W1 l1 ⟨hz, hm, hol, hres⟩ fr
  dsimp only at hz hm hol hres
  refine ⟨rfl, br_split (fun hq => ?_) (fun hq => ?_)⟩
  · have hq : 0 ≤ z := hq
    obtain ⟨m, rfl⟩ : ∃ k, m = k + 1 := ⟨m - 1, by omega⟩
    obtain rfl : z = (m : Int) := by omega
    have dec : (m : Int) - 1 = IntKind.i64.wrap ((m : Int) - 1) := (i64_in _ ⟨by omega, by omega⟩).symm
    obtain ⟨a, rfl, n, hx, _, _, hr⟩ := RP.at (f := nodeC) (sz := 5) (fun _ => rfl) hu l1 (j := (m : Int)) ⟨by omega, by omega⟩
    have hx : l[m]? = some n := hx
    have hn := hN n (List.mem_of_getElem? hx)
    have hstep : absGo l (m + 1) out = absGo l m (absStep n m out) := by rw [absGo, hx]
    rw [hstep] at hres
    have hmg : (out.map Value.bool)[m]? = some (.bool (out.getD m false)) := get_bool (by omega)
    obtain ⟨k, nr, nt, na, nb⟩ := n
    refine ⟨⟨by omega, by show (m : Int) < L; omega⟩, _, rfl, [.int .i64 k, strV nr, strV nt, .int .i64 na, .int .i64 nb], rfl, Rds.o hr, rfl, br_split (fun h4 => ?_) (fun h4 => ?_)⟩
    · have h4 : 4 ≤ k := h4
      obtain ⟨n1, n2, n3, n4⟩ := hn h4
      have n1 : 0 ≤ na := n1
      have n2 : na < L := n2
      have n3 : 0 ≤ nb := n3
      have n4 : nb < L := n4
      have e1 := set_map Value.bool (out.getD m false) (l := out) (j := na.toNat) (by omega)
      obtain ⟨out1, ho1⟩ : ∃ o, out.set na.toNat (out.getD m false) = o := ⟨_, rfl⟩
      have hol1 : out1.length = L := by rw [← ho1, List.length_set]; exact hol
      rw [ho1] at e1
      have hmg1 : (out1.map Value.bool)[m]? = some (.bool (out1.getD m false)) := get_bool (by omega)
      have e2 := fun v => set_map Value.bool v (l := out1) (j := nb.toNat) (by omega)
      have habs : absStep ⟨k, nr, nt, na, nb⟩ m out = out1.set nb.toNat (out1.getD m false || decide (k = 6)) := by
        unfold absStep
        rw [if_pos h4]
        show (out.set na.toNat (out.getD m false)).set nb.toNat ((out.set na.toNat (out.getD m false)).getD m false || decide (k = 6)) = _
        rw [ho1]
      rw [habs] at hres
      refine ⟨⟨by omega, by show (m : Int) < L; omega⟩, _, rfl, .bool (out.getD m false), .inr ⟨0, boolO g L out, ⟨g, 0, none⟩, L, L, m * 1, rfl, rfl, rfl, by rw [Nat.mul_one]; exact hmg⟩, ⟨n1, n2⟩, _, rfl, ?_⟩
      refine ⟨0, boolO g L out, ⟨g, 0, none⟩, L, L, na.toNat * 1, rfl, rfl, rfl, rfl, (fun u hu => by rw [List.mem_singleton.1 hu]; rfl), by rw [Nat.mul_one]; show na.toNat + 1 ≤ (out.map Value.bool).length; rw [List.length_map]; omega, rfl, ?_⟩
      obtain ⟨x, hxo⟩ : ∃ x, out.getD m false = x := ⟨_, rfl⟩
      rw [hxo] at e1
      obtain ⟨b1, hb1⟩ : ∃ x, out1.getD m false = x := ⟨_, rfl⟩
      rw [hb1] at hmg1 hres
      have hO : ∀ v : Bool, (((out.map Value.bool).take (na.toNat * 1) ++ [Value.bool (out.getD m false)] ++ (out.map Value.bool).drop (na.toNat * 1 + 1)).take (nb.toNat * 1) ++ [Value.bool v] ++ ((out.map Value.bool).take (na.toNat * 1) ++ [Value.bool (out.getD m false)] ++ (out.map Value.bool).drop (na.toNat * 1 + 1)).drop (nb.toNat * 1 + 1)) = (out1.set nb.toNat v).map Value.bool := fun v => by
        rw [Nat.mul_one, Nat.mul_one, hxo, e1]; exact e2 v
      have hlen1 : nb.toNat * 1 + 1 ≤ ((out.map Value.bool).take (na.toNat * 1) ++ [Value.bool (out.getD m false)] ++ (out.map Value.bool).drop (na.toNat * 1 + 1)).length := by
        rw [Nat.mul_one, Nat.mul_one, hxo, e1, List.length_map]; omega
      refine ⟨⟨by omega, by show (m : Int) < L; omega⟩, _, rfl, .bool b1, .inr ⟨0, _, ⟨g, 0, none⟩, L, L, m * 1, rfl, rfl, rfl, ?_⟩, ?_⟩
      · show ((out.map Value.bool).take (na.toNat * 1) ++ [Value.bool (out.getD m false)] ++ (out.map Value.bool).drop (na.toNat * 1 + 1))[m * 1]? = _
        rw [Nat.mul_one, Nat.mul_one, hxo, e1]; exact hmg1
      cases b1 with
      | true =>
        refine ⟨⟨n3, n4⟩, _, rfl, ?_⟩
        refine ⟨0, _, ⟨g, 0, none⟩, L, L, nb.toNat * 1, rfl, rfl, rfl, rfl, (fun u hu => by rw [List.mem_singleton.1 hu]; rfl), hlen1, rfl, ?_⟩
        refine ⟨rfl, _, dec, ⟨(m : Int) - 1, m, out1.set nb.toNat true⟩, all_sl ⟨rfl, trivial⟩, rfl, ole_eq ?_, ⟨rfl, by dsimp only; omega, by rw [List.length_set]; exact hol1, by rw [Bool.true_or] at hres; exact hres⟩, by dsimp only; omega⟩
        exact congrArg (fun cs => [(⟨.slice (some ⟨g, 0, none⟩) L L, 4, 1, L, cs⟩ : Own)]) (hO true)
      | false =>
        refine ⟨rfl, ⟨n3, n4⟩, _, rfl, ?_⟩
        refine ⟨0, _, ⟨g, 0, none⟩, L, L, nb.toNat * 1, rfl, rfl, rfl, rfl, (fun u hu => by rw [List.mem_singleton.1 hu]; rfl), hlen1, rfl, ?_⟩
        refine ⟨rfl, _, dec, ⟨(m : Int) - 1, m, out1.set nb.toNat (decide (k = 6))⟩, all_sl ⟨rfl, trivial⟩, rfl, ole_eq ?_, ⟨rfl, by dsimp only; omega, by rw [List.length_set]; exact hol1, by rw [Bool.false_or] at hres; exact hres⟩, by dsimp only; omega⟩
        exact congrArg (fun cs => [(⟨.slice (some ⟨g, 0, none⟩) L L, 4, 1, L, cs⟩ : Own)]) (hO (decide (k = 6)))
    · have h4 : ¬ 4 ≤ k := h4
      have habs : absStep ⟨k, nr, nt, na, nb⟩ m out = out := by unfold absStep; rw [if_neg h4]
      rw [habs] at hres
      exact ⟨rfl, _, dec, ⟨(m : Int) - 1, m, out⟩, all_sl ⟨rfl, trivial⟩, rfl, ole_refl _, ⟨rfl, by dsimp only; omega, hol, hres⟩, by dsimp only; omega⟩
  · have hq : ¬ 0 ≤ z := hq
    obtain rfl : m = 0 := by omega
    have hres : out = R := hres
    subst hres
    refine RetVC.freeze (fun _ hb => hb) (i := 0) rfl fun Wm lm hs0 => ?_
    refine ret_plain rfl fun W' l' => ?_
    have h := SlRead.mono hs0 l'
    show SlRead W' (.slice (some ⟨g, 0, none⟩) L L) out.length (out.map boolC).flatten
    rw [flat_bool, hol]
    exact h
end Go.Proofs.YtcgbcbdgjhnlaaaGreat

/- Layer 18 (strata), walked: the relations that a node names. -/
namespace Go.Proofs.YtcgbcbdgjhnlaaaGreat
open Go.RowKit

theorem findUp_none {c : ConfS} {l : List TypS} {i : Nat} (h : findUp c l i = none) : ∀ {j : Nat}, i ≤ j → findUp c l j = none
  | 0, hj => by obtain rfl : i = 0 := by omega
                exact h
  | j + 1, hj => by
    by_cases e : i = j + 1
    · rw [← e]; exact h
    · rw [findUp, findUp_none h (j := j) (by omega)]
theorem findUp_some {c : ConfS} {l : List TypS} {i : Nat} {out : List Spot} {t : TypS} {s : Spot} (h : findUp c l i = some out) (ht : l[i]? = some t) (hs : findS c t = some s) : findUp c l (i + 1) = some (out ++ [s]) := by
  rw [findUp, h, ht]
  dsimp only
  rw [hs]
theorem findUp_no {c : ConfS} {l : List TypS} {i : Nat} {out : List Spot} {t : TypS} (h : findUp c l i = some out) (ht : l[i]? = some t) (hs : findS c t = none) : findAll c l = none := by
  refine findUp_none (i := i + 1) ?_ (Nat.succ_le_of_lt (List.getElem?_eq_some_iff.1 ht).1)
  rw [findUp, h, ht]
  dsimp only
  rw [hs]
theorem findUp_len {c : ConfS} {l : List TypS} : ∀ {i : Nat} {out : List Spot}, findUp c l i = some out → out.length ≤ i
  | 0, out, h => by cases h; exact Nat.le_refl _
  | i + 1, out, h => by
    rw [findUp] at h
    split at h
    · rename_i o t h1 h2
      have := findUp_len h1
      split at h
      · cases h; rw [List.length_append]; exact Nat.succ_le_succ this
      · cases h
    · rename_i o h1 h2
      have := findUp_len h1
      cases h; omega
    · cases h

def spotO (v : Value) (l : List Spot) : Own := ⟨v, 137, 2, l.length, (l.map spotC).flatten⟩
theorem spotO_snoc (A : Option Addr) (c : Nat) (l : List Spot) (x : Spot) : (⟨.slice A (l.length + 1) c, 137, 2, l.length + 1, (l.map spotC).flatten ++ spotC x⟩ : Own) = spotO (.slice A (l ++ [x]).length c) (l ++ [x]) := by
  unfold spotO
  rw [List.length_append, flat_snoc]; rfl
theorem spotC_one (s : Spot) : ∀ u ∈ spotC s, u.oneCell' = true := by
  intro u hu
  simp only [spotC, List.mem_cons, List.not_mem_nil, or_false] at hu
  rcases hu with rfl | rfl <;> rfl
theorem raw_look2 {B : Base} {o : Oper} {m x : Operand} {g : Nat} {t : TypS} {c : ConfS} {fo : Option Spot} {f : Fr} {prot : List Nat} {S : GS} {K : GV → GS → Prop} (hfo : findS c t = fo) (ho : o.op = .lookup 132 m x true) (hm : evG f m = .v (.map (some g))) (hx : ∀ ρ, (evG f x).real ρ = .agg ⟨typC t⟩) (ht : smT t) (hM : AtM S.W g c)
    (hK : K (.v (.tuple ⟨[.agg ⟨spotC (fo.getD (0, 0))⟩, .bool fo.isSome]⟩)) S) : RawVC Tryz.prog B o f prot S K := by
  subst hfo
  exact raw_look ho hm hx ht hM hK
def OptR (W : PW) (v : Value) (o : Option (List Spot)) : Prop := ∃ u, v = .tuple ⟨[u, .bool o.isSome]⟩ ∧ ∀ l, o = some l → RP spotC W u l
structure FdSt where
  i : Nat
  A : Option Addr
  c : Nat
  l : List Spot
def tailNm : MC := match m87.code with | .seq _ (.seq _ (.seq _ (.seq _ b))) => b | c => c
set_option maxRecDepth 20000 in
set_option maxHeartbeats 16000000 in
theorem named_tail (c : ConfS) (ts : List TypS) (hl : ts.length ≤ 1000000) (hsm : ∀ t ∈ ts, smT t) (a : Addr) (W W1 : PW) (l01 : W.Le W1) (h : Idx W a c) (fr : Fr) (A0 : Option Addr) (k0 : Nat) (o0 : Own) (hk : o0 = nilO 97 2 ∧ RP typC W1 (.slice A0 ts.length k0) ts ∨ o0 = typesO (.slice A0 ts.length k0) ts ∧ OwnAt A0 ts.length)
    (x1 x2 y1 y2 y3 y4 y5 z1 z2 z3 : Value) (s3 : List (List PV)) (h3 : s3 = [] ∨ ∃ w1 w2, s3 = [[.v w1, .v w2]]) (hfr : AllSl fr [(0, .v (.pointer (some a))), (10, .v (.slice A0 ts.length k0))]) :
    vc Tryz.prog ⟨W, [], []⟩ fr ⟨[[.v x1, .v x2], [.v y1, .v y2, .v y3, .v y4, .v y5], [.v z1, .v z2, .v z3]] ++ s3, [o0, nilO 137 2], W1⟩ (retK ⟨W, [], []⟩ m87.rs fun v W' => OptR W' v (findAll c ts)) tailNm := by
  have hmax : (100000000 : Nat) ≤ maxLen := by decide
  have hidx := h
  obtain ⟨sv, kv, g, i1, i2, i3, i4⟩ := h
  obtain ⟨R, hR⟩ : ∃ R, findAll c ts = R := ⟨_, rfl⟩
  rw [hR]
  have hrd : ∀ (i : Nat) (t : TypS) (W2 : PW), ts[i]? = some t → W1.Le W2 → ∃ a0, A0 = some a0 ∧ ∀ (σ : List (List PV)) (o1 : Own), RdsO ⟨σ, [o0, o1], W2⟩ (a0.add (i * 2)) (typC t) := fun i t W2 ht lw => by
    have hi := (List.getElem?_eq_some_iff.1 ht).1
    rcases hk with ⟨_, hk⟩ | ⟨rfl, hA0⟩
    · obtain ⟨a', e, x, hx, _, _, hr⟩ := RP.at (f := typC) (sz := 2) (fun _ => rfl) hk lw (j := (i : Int)) ⟨by omega, by omega⟩
      obtain rfl : t = x := Option.some.inj (ht.symm.trans hx)
      exact ⟨a', e, fun σ o1 => Rds.o hr⟩
    · obtain ⟨gg, rfl⟩ := hA0 (by omega)
      refine ⟨_, rfl, fun σ o1 => ?_⟩
      intro j v hj
      refine .inr ⟨0, _, ⟨gg, 0, none⟩, ts.length, k0, i * 2 + j, rfl, rfl, by rw [Addr.add_add], ?_⟩
      have hj2 : j < 2 := (List.getElem?_eq_some_iff.1 hj).1
      show ((ts.map typC).flatten)[i * 2 + j]? = some v
      rw [flat_get (f := typC) (sz := 2) (fun _ => rfl) ht hj2]; exact hj
  refine vc_at _ hfr ?_
  clear hfr
  rcases h3 with rfl | ⟨w1, w2, rfl⟩
  all_goals
    refine ⟨FdSt, fun t => [(15, .v (.slice t.A t.l.length t.c)), (87, .v (.int .i64 t.i))], fun _ => _, fun t => [o0, spotO (.slice t.A t.l.length t.c) t.l], fun t _ => t.i ≤ ts.length ∧ findUp c ts t.i = some t.l, fun t => ts.length - t.i, ⟨0, none, 0, []⟩,
      all_sl ⟨rfl, rfl, trivial⟩, rfl, ole_refl _, ⟨Nat.zero_le _, rfl⟩, loopOK (fun _ => ⟨⟨trivial, rfl⟩, ⟨trivial, rfl⟩, trivial⟩) (fun _ => rfl) (fun _ => rfl), ?_⟩
    rintro ⟨i, A, k, l⟩ W2 l2 ⟨hi, hf⟩ fr2
    dsimp only at hi hf
    have hll := findUp_len hf
    refine ⟨rfl, br_split (fun hq => ?_) (fun hq => ?_)⟩
    · have hq : (i : Int) < ts.length := hq
      have inc := (i64_in ((i : Int) + 1) ⟨by omega, by omega⟩).symm
      obtain ⟨t, ht⟩ : ∃ t, ts[i]? = some t := ⟨ts[i]'(by omega), List.getElem?_eq_getElem (by omega)⟩
      obtain ⟨a0, rfl, hrd0⟩ := hrd i t W2 ht l2
      have hst := hsm t (List.mem_of_getElem? ht)
      have hM := i4.mono (l01.trans l2)
      have hs1 := fun s hs => findUp_some (s := s) hf ht hs
      have hs2 := fun hs => findUp_no hf ht hs
      obtain ⟨fo, hfo⟩ : ∃ fo, findS c t = fo := ⟨_, rfl⟩
      rw [hfo] at hs1 hs2
      have hlook := fun {o : Oper} {m x : Operand} {f : Fr} {prot : List Nat} {S : GS} {K : GV → GS → Prop} => raw_look2 (B := ⟨W, [], []⟩) (o := o) (m := m) (x := x) (g := g) (c := c) (f := f) (prot := prot) (S := S) (K := K) hfo
      clear hfo
      obtain ⟨t1, t2⟩ := t
      refine ⟨⟨by omega, hq⟩, _, rfl, [strV t1, strV t2], rfl, hrd0 _ _, .map (some g), ((i1.mono (l01.trans l2)) 2 _ rfl).o, ?_⟩
      refine ⟨?_, ?_⟩
      all_goals
        refine hlook rfl rfl (fun _ => rfl) hst hM ?_
        refine ⟨_, rfl, _, rfl, ?_⟩
        cases fo with
        | none =>
          refine ret_plain rfl fun W' _ => ?_
          rw [← hR, hs2 rfl]
          exact ⟨_, rfl, fun l hl => by cases hl⟩
        | some p =>
          obtain ⟨p1, p2⟩ := p
          refine ⟨rfl, .inl fun bd Wd ld hrd => ⟨1, _, spotC (p1, p2), rfl, rfl, rfl, rfl, rfl, spotC_one _, fun _ => ⟨_, rfl, Rds.o hrd⟩, by show l.length + 1 ≤ maxLen; omega, by show (l.length + 1) * 16 ≤ 140737488355328; omega, rfl, @fun Ae ce _ => ?_⟩⟩
          refine ⟨rfl, _, inc, ⟨i + 1, Ae, ce, l ++ [(p1, p2)]⟩, all_sl ⟨?_, rfl, trivial⟩, rfl, ole_eq ?_, ⟨by dsimp only; omega, hs1 (p1, p2) rfl⟩, by dsimp only; omega⟩
          · dsimp only; rw [show (l ++ [(p1, p2)]).length = l.length + 1 from List.length_append]; rfl
          · exact congrArg (fun z => [o0, z]) (spotO_snoc Ae ce l (p1, p2))
    · have hq : ¬ (i : Int) < ts.length := hq
      obtain rfl : i = ts.length := by omega
      have hf : findAll c ts = some l := hf
      rw [hf] at hR
      subst hR
      refine RetVC.freeze (fun _ hb => hb) (i := 1) rfl fun Wm lm hs0 => ?_
      exact ret_plain rfl fun W' l' => ⟨_, rfl, fun q hq => by cases hq; exact SlRead.mono hs0 l'⟩
end Go.Proofs.YtcgbcbdgjhnlaaaGreat

/- Layer 18 (strata), walked: the relations that a node names. -/
namespace Go.Proofs.YtcgbcbdgjhnlaaaGreat
open Go.RowKit

def SmC (c : ConfS) : Prop := (∀ sp ∈ c.spaces, sp.name.length ≤ 9223372036854775807 ∧ ∀ r ∈ sp.rels, r.name.length ≤ 9223372036854775807 ∧ r.types.length ≤ 1000 ∧ r.nodes.length ≤ 1000 ∧ (∀ t ∈ r.types, smT t) ∧ ∀ n ∈ r.nodes, n.small ∧ (4 ≤ n.kind → 0 ≤ n.a ∧ n.a < r.nodes.length ∧ 0 ≤ n.b ∧ n.b < r.nodes.length)) ∧ (∀ s ∈ c.scopes, smS s) ∧ c.spaces.length ≤ 1000 ∧ (∀ sp ∈ c.spaces, sp.rels.length ≤ 1000) ∧ c.scopes.length ≤ 1000
theorem relAt_mem {c : ConfS} {s : Spot} {r : RelS} (h : relAt c s = some r) : ∃ sp, c.spaces[s.1]? = some sp ∧ nameAt c s.1 = sp.name ∧ sp ∈ c.spaces ∧ r ∈ sp.rels := by
  unfold relAt at h
  obtain ⟨sp, h1, h2⟩ := Option.bind_eq_some_iff.1 h
  exact ⟨sp, h1, by unfold nameAt; rw [h1]; rfl, List.mem_of_getElem? h1, List.mem_of_getElem? h2⟩
theorem setsS_len (l : List TypS) : (setsS l).length ≤ l.length := List.length_filter_le _ _
structure ArSt where
  i : Nat
  A : Option Addr
  c : Nat
  l : List TypS
set_option maxRecDepth 20000 in
set_option maxHeartbeats 16000000 in
theorem named_x (c : ConfS) (hS : SmC c) (s : Spot) (r : RelS) (hr : relAt c s = some r) (n : NodeS) (hn : n.small) (a : Addr) (W : PW) (h : Idx W a c) :
    CallsX Tryz.prog 87 ⟨[.pointer (some a), .agg ⟨spotC s⟩, .agg ⟨nodeC n⟩]⟩ [] W fun v W' => OptR W' v (namedS c s r n) := by
  have hmax : (100000000 : Nat) ≤ maxLen := by decide
  obtain ⟨sp, hsp, hnm, hspm, hrm⟩ := relAt_mem hr
  obtain ⟨sm1, sm2⟩ := hS.1 sp hspm
  obtain ⟨sm3, sm4, sm5, sm6, sm7⟩ := sm2 r hrm
  have sm4 := Nat.le_trans sm4 (show 1000 ≤ 1000000 by omega)
  have hidx := h
  obtain ⟨sv, kv, g, i1, i2, i3, i4⟩ := h
  obtain ⟨R, hR⟩ : ∃ R, namedS c s r n = R := ⟨_, rfl⟩
  rw [hR]
  refine pureNX hmix Tryz.func87 r87 (by kernel_rfl) [nilO 97 2, nilO 137 2] rfl [.pointer (some a), .agg ⟨spotC s⟩, .agg ⟨nodeC n⟩] rfl ?_
  refine vc_assoc (vc_cut (fun f' S' => ∃ (tv nv : Value) (W1 : PW), S' = ⟨[(spotC s).map .v, (nodeC n).map .v, [.v (strV r.name), .v tv, .v nv]], [nilO 97 2, nilO 137 2], W1⟩ ∧ W.Le W1 ∧ RP typC W1 tv r.types ∧ AllSl f' [(0, .v (.pointer (some a))), (5, .lp 1 0), (8, .v (strV sp.name)), (9, .lp 2 0)]) ?_ ?_)
  · have hi := (List.getElem?_eq_some_iff.1 hsp).1
    obtain ⟨A0, c0, rfl, q1, q2⟩ := i2.form
    obtain ⟨a0, rfl, sp', cs0, hx0, hc0, hR0, hr0, _⟩ := RL.at SpR.mono i2 (PW.Le.refl W) (j := (s.1 : Int)) ⟨by omega, by omega⟩
    obtain rfl : sp = sp' := Option.some.inj (hsp.symm.trans hx0)
    obtain ⟨rv, rfl, hrels⟩ := hR0
    obtain ⟨s1, s2⟩ := s
    refine ⟨.slice (some a0) c.spaces.length c0, (rd_ff i1 (i := 0) (j := 0) rfl).o, ⟨by omega, by show (s1 : Int) < c.spaces.length; omega⟩, _, rfl, strV sp.name, (hr0 0 _ rfl).o, ?_⟩
    refine ⟨?_, ?_⟩
    all_goals
      refine call_v rfl (fun W' lw => rel_x c (s1, s2) r hr a W' (hidx.mono lw)) (fun W3 v W4 l3 l4 hv => ?_)
      obtain ⟨cs, rfl, tv, nv, rfl, hT, hN⟩ := hv
      obtain ⟨A2, c2, rfl, _, _⟩ := hT.form
      obtain ⟨A3, c3, rfl, _, _⟩ := hN.form
      exact ⟨_, _, W4, rfl, l3.trans l4, hT, ⟨rfl, rfl, rfl, rfl, trivial⟩⟩
  rintro f' S' ⟨tv, nv, W1, rfl, l1, htv, hfr⟩
  obtain ⟨s1, s2⟩ := s
  obtain ⟨k, nr, nt, na, nb⟩ := n
  obtain ⟨y1, y2⟩ := hn
  dsimp only at y1 y2
  have tail : ∀ (ts : List TypS) (W2 : PW) (hts : namedT c (s1, s2) r ⟨k, nr, nt, na, nb⟩ = some ts), W1.Le W2 → True := fun _ _ _ _ => trivial
  refine vc_assoc (vc_cut (fun f' S' => ∃ (ts : List TypS) (A0 : Option Addr) (k0 : Nat) (o0 : Own) (s3 : List (List PV)) (W2 : PW), S' = ⟨[(spotC (s1, s2)).map .v, (nodeC ⟨k, nr, nt, na, nb⟩).map .v, [.v (strV r.name), .v tv, .v nv]] ++ s3, [o0, nilO 137 2], W2⟩ ∧ W1.Le W2 ∧ namedT c (s1, s2) r ⟨k, nr, nt, na, nb⟩ = some ts ∧ ts.length ≤ 1000000 ∧ (∀ t ∈ ts, smT t) ∧ (o0 = nilO 97 2 ∧ RP typC W2 (.slice A0 ts.length k0) ts ∨ o0 = typesO (.slice A0 ts.length k0) ts ∧ OwnAt A0 ts.length) ∧ (s3 = [] ∨ ∃ w1 w2, s3 = [[.v w1, .v w2]]) ∧ AllSl f' [(0, .v (.pointer (some a))), (10, .v (.slice A0 ts.length k0))]) ?_ ?_)
  · refine vc_at _ hfr ?_
    refine ⟨rfl, br_split (fun h1 => ?_) (fun h1 => ?_)⟩
    · have h1 : k = 1 := h1
      have ets : namedT c (s1, s2) r ⟨k, nr, nt, na, nb⟩ = some (setsS r.types) := by unfold namedT; exact if_pos h1
      refine call_v rfl (fun W' lw => sets_x r.types tv W' (htv.mono lw) sm4) (fun W3 v W4 l3 l4 hv => ?_)
      obtain ⟨A2, c2, rfl, _, _⟩ := hv.form
      exact ⟨setsS r.types, A2, c2, _, [], W4, rfl, l3.trans l4, ets, Nat.le_trans (setsS_len _) sm4, fun t ht => sm6 t ((List.mem_filter.1 ht).1), .inl ⟨rfl, hv⟩, .inl rfl, ⟨rfl, rfl, trivial⟩⟩
    · have h1 : ¬ k = 1 := h1
      refine ⟨rfl, ?_⟩
      apply br_split
      · intro h2
        have h2 : k = 2 := h2
        have ets : namedT c (s1, s2) r ⟨k, nr, nt, na, nb⟩ = some [⟨sp.name, nr⟩] := by
          unfold namedT
          rw [if_neg (show ¬ (NodeS.mk k nr nt na nb).kind = 1 from h1), if_pos (show (NodeS.mk k nr nt na nb).kind = 2 from h2), hnm]
        refine ⟨rfl, .inl fun bd Wd ld hrd => ?_⟩
        exact ⟨_, _, _, _, [], Wd, rfl, ld, ets, by show 1 ≤ 1000000; omega, fun t ht => by rw [List.mem_singleton.1 ht]; exact ⟨sm1, y1⟩, .inl ⟨rfl, SlRead.of_rds (n := 1) hrd (by omega)⟩, .inl rfl, ⟨rfl, rfl, trivial⟩⟩
      · intro h2
        have h2 : ¬ k = 2 := h2
        refine ⟨rfl, ?_⟩
        apply br_split
        · intro h3
          have h3 : k = 3 := h3
          have hT3 : namedT c (s1, s2) r ⟨k, nr, nt, na, nb⟩ = match findS c ⟨sp.name, nr⟩ with
              | none => none
              | some p => match relAt c p with | none => none | some q => if arrowT q nt = [] then none else some (arrowT q nt) := by
            unfold namedT
            rw [if_neg (show ¬ (NodeS.mk k nr nt na nb).kind = 1 from h1), if_neg (show ¬ (NodeS.mk k nr nt na nb).kind = 2 from h2), if_pos (show (NodeS.mk k nr nt na nb).kind = 3 from h3), hnm]
            (first | done | rfl)
          have hRn : namedT c (s1, s2) r ⟨k, nr, nt, na, nb⟩ = none → R = none := fun e => by rw [← hR]; unfold namedS; rw [e]
          obtain ⟨T, hTT⟩ : ∃ T, namedT c (s1, s2) r ⟨k, nr, nt, na, nb⟩ = T := ⟨_, rfl⟩
          rw [hTT] at hT3 hRn ⊢
          have hM := i4.mono l1
          have hst : smT ⟨sp.name, nr⟩ := ⟨sm1, y1⟩
          have hrel := fun p (hp : findS c ⟨sp.name, nr⟩ = some p) => findS_rel hp
          obtain ⟨fo, hfo⟩ : ∃ fo, findS c ⟨sp.name, nr⟩ = fo := ⟨_, rfl⟩
          rw [hfo] at hT3 hrel
          have hlook := fun {o : Oper} {m x : Operand} {f : Fr} {prot : List Nat} {S : GS} {K : GV → GS → Prop} => raw_look2 (B := ⟨W, [], []⟩) (o := o) (m := m) (x := x) (g := g) (c := c) (f := f) (prot := prot) (S := S) (K := K) hfo
          clear hfo
          refine ⟨.map (some g), (i1.mono l1 2 _ rfl).o, ?_⟩
          refine ⟨?_, ?_⟩
          all_goals
            refine hlook rfl rfl (fun _ => rfl) hst hM ?_
            refine ⟨_, rfl, _, rfl, ?_⟩
            cases fo with
            | none =>
              refine ret_plain rfl fun W' _ => ?_
              rw [hRn hT3]
              exact ⟨_, rfl, fun l hl => by cases hl⟩
            | some p =>
              obtain ⟨q, hq⟩ := hrel p rfl
              dsimp only at hT3
              rw [hq] at hT3
              dsimp only at hT3
              obtain ⟨sq, _, _, hsq, hqm⟩ := relAt_mem hq
              obtain ⟨_, sq2⟩ := hS.1 sq hsq
              obtain ⟨_, sq4, _, sq6, _⟩ := sq2 q hqm
              have sq4 := Nat.le_trans sq4 (show 1000 ≤ 1000000 by omega)
              obtain ⟨p1, p2⟩ := p
              refine call_v rfl (fun W' lw => rel_x c (p1, p2) q hq a W' (hidx.mono (l1.trans lw))) (fun W3 v W4 l3 l4 hv => ?_)
              obtain ⟨cs, rfl, qv, nv2, rfl, hT, _⟩ := hv
              refine call_v rfl (fun W' lw => sets_x q.types qv W' (hT.mono lw) sq4) (fun W5 v W6 l5 l6 hv => ?_)
              obtain ⟨A5, c5, rfl, _, _⟩ := hv.form
              have hql := Nat.le_trans (setsS_len q.types) sq4
              obtain ⟨ts, hts⟩ : ∃ ts, setsS q.types = ts := ⟨_, rfl⟩
              have htsm : ∀ t ∈ ts, smT t := fun t ht => sq6 t (by rw [← hts] at ht; exact (List.mem_filter.1 ht).1)
              unfold arrowT at hT3
              rw [hts] at hT3 hql hv ⊢
              refine ⟨ArSt, fun t => [(10, .v (.slice t.A t.l.length t.c)), (69, .v (.int .i64 t.i))], fun _ => _, fun t => [typesO (.slice t.A t.l.length t.c) t.l, nilO 137 2], fun t _ => t.i ≤ ts.length ∧ t.l = (ts.take t.i).map (fun t => ⟨t.space, nt⟩) ∧ OwnAt t.A t.l.length, fun t => ts.length - t.i, ⟨0, none, 0, []⟩,
                all_sl ⟨rfl, rfl, trivial⟩, rfl, ole_refl _, ⟨Nat.zero_le _, rfl, fun h => absurd h (Nat.lt_irrefl 0)⟩, loopOK (fun _ => ⟨⟨trivial, rfl⟩, ⟨trivial, rfl⟩, trivial⟩) (fun _ => rfl) (fun _ => rfl), ?_⟩
              rintro ⟨i, A, k2, l⟩ W7 l7 ⟨hi, hl, hA⟩ fr2
              dsimp only at hi hl hA
              have hll : l.length ≤ i := by rw [hl, List.length_map, List.length_take]; omega
              refine ⟨rfl, br_split (fun hq2 => ?_) (fun hq2 => ?_)⟩
              · have hq2 : (i : Int) < ts.length := hq2
                have inc := (i64_in ((i : Int) + 1) ⟨by omega, by omega⟩).symm
                obtain ⟨a5, rfl, x, hx, _, _, hr5⟩ := RP.at (f := typC) (sz := 2) (fun _ => rfl) hv l7 (j := (i : Int)) ⟨by omega, by omega⟩
                have hx : ts[i]? = some x := hx
                have hnext : (ts.take (i + 1)).map (fun t => (⟨t.space, nt⟩ : TypS)) = l ++ [⟨x.space, nt⟩] := by
                  rw [hl, List.take_add_one, hx, List.map_append]; rfl
                obtain ⟨xs, xr⟩ := x
                refine ⟨⟨by omega, hq2⟩, _, rfl, [strV xs, strV xr], rfl, Rds.o hr5, ?_⟩
                refine ⟨rfl, .inl fun bd Wd ld hrd => ⟨0, _, typC ⟨xs, nt⟩, rfl, rfl, rfl, rfl, rfl, typC_one _, fun _ => ⟨_, rfl, hrd.o⟩, by show l.length + 1 ≤ maxLen; omega, by show (l.length + 1) * 32 ≤ 140737488355328; omega, rfl, @fun Ae ce hAe => ?_⟩⟩
                refine ⟨rfl, _, inc, ⟨i + 1, Ae, ce, l ++ [⟨xs, nt⟩]⟩, all_sl ⟨?_, rfl, trivial⟩, rfl, ole_eq ?_, ⟨by dsimp only; omega, by dsimp only; rw [hnext], by dsimp only; rw [show (l ++ [(⟨xs, nt⟩ : TypS)]).length = l.length + 1 from List.length_append]; exact hAe⟩, by dsimp only; omega⟩
                · dsimp only; rw [show (l ++ [(⟨xs, nt⟩ : TypS)]).length = l.length + 1 from List.length_append]; rfl
                · exact congrArg (fun z => [z, nilO 137 2]) (by rw [show (l ++ [(⟨xs, nt⟩ : TypS)]).length = l.length + 1 from List.length_append]; exact (typesO_snoc Ae ce l ⟨xs, nt⟩).symm)
              · have hq2 : ¬ (i : Int) < ts.length := hq2
                rw [List.take_of_length_le (by omega)] at hl
                rw [← hl] at hT3
                refine ⟨rfl, ?_⟩
                apply br_split
                · intro h0
                  have h0 : (l.length : Int) = 0 := h0
                  have h0 : l = [] := List.length_eq_zero_iff.1 (by omega)
                  rw [if_pos h0] at hT3
                  refine ret_plain rfl fun W' _ => ?_
                  rw [hRn hT3]
                  exact ⟨_, rfl, fun l hl => by cases hl⟩
                · intro h0
                  have h0 : ¬ (l.length : Int) = 0 := h0
                  rw [if_neg (fun e => h0 (by rw [e]; rfl))] at hT3
                  exact ⟨l, A, k2, _, [[.v (.int .i64 p1), .v (.int .i64 p2)]], W7, rfl, l3.trans (l4.trans (l5.trans (l6.trans l7))), hT3, by omega, fun t ht => by rw [hl] at ht; obtain ⟨y, hy, rfl⟩ := List.mem_map.1 ht; exact ⟨(htsm y hy).1, y2⟩, .inr ⟨rfl, hA⟩, .inr ⟨_, _, rfl⟩, ⟨rfl, rfl, trivial⟩⟩
        · intro h3
          have h3 : ¬ k = 3 := h3
          have ets : namedT c (s1, s2) r ⟨k, nr, nt, na, nb⟩ = some [] := by
            unfold namedT
            rw [if_neg (show ¬ (NodeS.mk k nr nt na nb).kind = 1 from h1), if_neg (show ¬ (NodeS.mk k nr nt na nb).kind = 2 from h2), if_neg (show ¬ (NodeS.mk k nr nt na nb).kind = 3 from h3)]
          exact ⟨[], none, 0, _, [], W1, rfl, PW.Le.refl _, ets, Nat.zero_le _, (fun t ht => by cases ht), .inl ⟨rfl, RP.nil typC W1⟩, .inl rfl, ⟨rfl, rfl, trivial⟩⟩
  rintro f' S' ⟨ts, A0, k0, o0, s3, W2, rfl, l2, hts, hl, hsm, hk, h3, hfr⟩
  have e : findAll c ts = R := by rw [← hR]; unfold namedS; rw [hts]
  rw [← e]
  exact named_tail c ts hl hsm a W W2 (l1.trans l2) hidx f' A0 k0 o0 hk _ _ _ _ _ _ _ _ _ _ s3 h3 hfr
end Go.Proofs.YtcgbcbdgjhnlaaaGreat
