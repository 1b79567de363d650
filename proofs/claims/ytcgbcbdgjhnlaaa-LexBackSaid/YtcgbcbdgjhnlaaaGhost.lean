/- Ghost memory and verification conditions: a generator of conditions over the model's code, proved sound in the texts behind it. No statement of the seat is proved here. -/
import Derived.WalkKit
namespace Go.Proofs.Ytcgbcbdgjhnlaaa
open Go.RowKit

/-! ## Worlds, contracts -/

/-- Blocks that stood stay as they were, but for those of a list. -/
structure Keep (ex : List Nat) (w w' : World) : Prop where
  os : w'.os = w.os
  tape : w'.tape = w.tape
  output : w'.output = w.output
  size : w.heap.size ≤ w'.heap.size
  block : ∀ b, b < w.heap.size → b ∉ ex → w'.heap[b]? = w.heap[b]?

/-- A world, and which of its blocks are never written again. -/
structure PW where
  w : World
  A : Nat → Prop
  lt : ∀ b, A b → b < w.heap.size

structure PW.Le (W W' : PW) : Prop where
  size : W.w.heap.size ≤ W'.w.heap.size
  al : ∀ b, W.A b → W'.A b
  bl : ∀ b, W.A b → W'.w.heap[b]? = W.w.heap[b]?

/-- From a world on to a later one: only blocks of the list are written, only new blocks are added to those that are never written again. -/
structure Adv (ex : List Nat) (W W' : PW) : Prop where
  keep : Keep ex W.w W'.w
  le : W.Le W'
  back : ∀ b, W'.A b → W.A b ∨ W.w.heap.size ≤ b

def Callable (P : Program) (f : FuncId) : Prop :=
  ∃ fn, P.funcs[f]? = some fn ∧ fn.body.isNone = false ∧ (fn.name == "runtime.NumGoroutine") = false

/-- A call returns, writes to blocks of the list alone, and its value and world meet R. -/
def CallsX (P : Program) (f : FuncId) (args : Array Value) (ex : List Nat) (W : PW) (R : Value → PW → Prop) : Prop :=
  Callable P f ∧ Calls P f args W.w fun e w' => ∃ (v : Value) (W' : PW), e = .returned v ∧ w' = W'.w ∧ Adv ex W W' ∧ R v W'

/-! ## Ghost values -/

/-- What a cell holds: a value, or a pointer to one of the call's own variables. -/
inductive PV where
  | v (x : Value)
  | lp (k off : Nat)

/-- What a temporary holds. -/
inductive GV where
  | v (x : Value)
  | lp (k off : Nat)
  | ag (cs : List PV)
  | clo (f : FuncId) (caps : List PV)

def PV.real (ρ : Nat → Nat) : PV → Value
  | .v x => x
  | .lp k o => .pointer (some ⟨ρ k, o, none⟩)
def GV.real (ρ : Nat → Nat) : GV → Value
  | .v x => x
  | .lp k o => .pointer (some ⟨ρ k, o, none⟩)
  | .ag cs => .agg ⟨cs.map (PV.real ρ)⟩
  | .clo f caps => .func (.func f) #[] ⟨caps.map (PV.real ρ)⟩
def PV.gv : PV → GV
  | .v x => .v x
  | .lp k o => .lp k o
def PV.lt (n : Nat) : PV → Prop
  | .v _ => True
  | .lp k _ => k < n
def GV.lt (n : Nat) : GV → Prop
  | .v _ => True
  | .lp k _ => k < n
  | .ag cs => ∀ c ∈ cs, c.lt n
  | .clo _ caps => ∀ c ∈ caps, c.lt n
/-- The cells of a value; a closure with captured variables has none here. -/
def GV.cells : GV → List PV
  | .v (.agg cs) => cs.toList.map .v
  | .v x => [.v x]
  | .lp k o => [.lp k o]
  | .ag cs => cs
  | .clo _ _ => []
def aggCells : GV → Option (List PV)
  | .ag cs => some cs
  | .v (.agg cs) => some (cs.toList.map .v)
  | _ => none
def GV.isClo : GV → Bool
  | .clo _ _ => true
  | _ => false
/-- Each is the value of one cell. -/
def onesB : List PV → Bool
  | [] => true
  | .v x :: r => x.oneCell' && onesB r
  | .lp _ _ :: r => onesB r
/-- As plain values, where no pointer to a variable is among them. -/
def plainCells : List PV → Option (List Value)
  | [] => some []
  | .v x :: r => match plainCells r with | some l => some (x :: l) | none => none
  | .lp _ _ :: _ => none
def asPV : GV → Option PV
  | .v x => some (.v x)
  | .lp k o => some (.lp k o)
  | _ => none
def asPVs : List GV → Option (List PV)
  | [] => some []
  | g :: r => match asPV g, asPVs r with | some c, some l => some (c :: l) | _, _ => none

abbrev Fr := Nat → GV
def upd (f : Fr) (d : Nat) (g : GV) : Fr := fun i => bif Nat.beq i d then g else f i
def putF (f : Fr) (d : Option Nat) (g : GV) : Fr := match d with | some d => upd f d g | none => f
def evG (f : Fr) : Operand → GV
  | .tmp t => f t
  | .const v => .v v
  | .global g => .v (.pointer (some ⟨g, 0, none⟩))
  | .func k => .v (.func (.func k) #[] #[])

/-- A slice that the call owns: its header, its elements' type, cells an element, length, cells. -/
structure Own where
  v : Value
  e : TypeId
  sz : Nat
  n : Nat
  cs : List Value

/-- The ghost state: the call's own variables, the slices that it owns, the world as it was last looked at. -/
structure GS where
  σ : List (List PV)
  O : List Own
  W : PW

/-- (The state stands once in what is made of it: terms stay small.) -/
def GS.modσ (S : GS) (f : List (List PV) → List (List PV)) : GS := match S with | ⟨σ, O, W⟩ => ⟨f σ, O, W⟩
def GS.modO (S : GS) (f : List Own → List Own) : GS := match S with | ⟨σ, O, W⟩ => ⟨σ, f O, W⟩
def GS.setW (S : GS) (W : PW) : GS := match S with | ⟨σ, O, _⟩ => ⟨σ, O, W⟩
/-- The same, with the cells reckoned first. -/
def forceP : List PV → (List PV → Prop) → Prop
  | [], k => k []
  | .v x :: r, k => forceP r fun l => k (.v x :: l)
  | .lp j o :: r, k => forceP r fun l => k (.lp j o :: l)
theorem forceP_eq : ∀ (l : List PV) (k : List PV → Prop), forceP l k = k l
  | [], _ => rfl
  | .v x :: r, k => forceP_eq r fun l => k (.v x :: l)
  | .lp j o :: r, k => forceP_eq r fun l => k (.lp j o :: l)

/-- Where the call began: the world, the blocks that it may write, the blocks of its receivers. -/
structure Base where
  W : PW
  ex : List Nat
  rc : List Nat

/-! ## Operations, resolved -/

inductive M where
  | mv (x : Operand)
  | pick (c a b : Operand)
  | nilck (x : Operand)
  | faddr (off : Nat) (x : Operand)
  | ld1 (x : Operand)
  | ldN (n : Nat) (x : Operand)
  | st (n : Nat) (a x : Operand)
  | iaddr (sz : Nat) (x i : Operand)
  | iaddrA (len sz : Nat) (x i : Operand)
  | idx (x i : Operand)
  | fld1 (off : Nat) (x : Operand)
  | fldN (off n : Nat) (x : Operand)
  | slS (x : Operand) (lo hi : Option Operand)
  | slV (sz : Nat) (x : Operand) (lo hi : Option Operand)
  | ib (op : BinOp) (x y : Operand)
  | sb (op : BinOp) (x y : Operand)
  | bb (op : BinOp) (x y : Operand)
  | pnil (neq : Bool) (x : Operand)
  | eqA (neq : Bool) (t : TypeId) (ss : List TypeId) (ks : List Nat) (x y : Operand)
  | not (x : Operand)
  | lenS (x : Operand)
  | lenV (x : Operand)
  | alloc (e : TypeId) (zero : List Value)
  | box (e : TypeId) (x : Operand)
  | build (zero : List Value) (parts : List (Nat × Nat × Operand))
  | bslice (e : TypeId) (zero : List Value) (len sz : Nat) (parts : List (Nat × Nat × Operand))
  | mkslice (e : TypeId) (sz bytes : Nat) (zero : List Value) (l c : Operand)
  | append (e : TypeId) (sz bytes : Nat) (d s : Operand)
  | call (f : FuncId) (args : List Operand)
  | callv (x : Operand) (args : List Operand)
  | mkfn (f : FuncId) (caps : List Operand)
  | ext (x : Operand) (i : Nat)
  | conv (k : IntKind) (x : Operand)
  | maxI (x y : Operand)
  | b2s (x : Operand)
  | i2s (x : Operand)
  | slV3 (sz : Nat) (x : Operand) (lo hi : Option Operand) (mx : Operand)
  | s2b (e : TypeId) (x : Operand)
  | raw (o : Oper)

/-- An operation: its temporary, its guard, itself; and (in a region that draws) which operations come ahead of it in every order. -/
structure MI where
  dst : Option Nat
  guard : Option (Nat × Bool)
  op : M
  past : List Nat := []

/-- The orders in which a region that draws is walked: 'op': number i comes next; 'both': one of several may come next. -/
inductive DT where
  | nil
  | op (i : Nat) (m : MI) (r : DT)
  | both (a b : DT)

inductive MC where
  | skip
  | ops (l : List MI)
  | dops (t : DT)
  | seq (a b : MC)
  | cond (c : Operand) (a b : MC)
  | block (id : Nat) (a : MC)
  | loop (wr : List (Nat × Nat)) (a : MC)
  | exit (id : Nat)
  | ret
  | scope (a : MC)

/-! ## Conditions -/

/-- (The Bool comes last: the kernel compares arguments from the last one on, and is to see at once that two differ.) -/
def Branch (X Y : Prop) (b : Bool) : Prop := match b with | true => X | false => Y

/-- The world at hand meets the ghost state. -/
structure St (B : Base) (ρ : Nat → Nat) (S : GS) (w : World) : Prop where
  keep : Keep B.ex B.W.w w
  vsize : S.W.w.heap.size ≤ w.heap.size
  vblock : ∀ b, S.W.A b → w.heap[b]? = S.W.w.heap[b]?
  mono : B.W.Le S.W
  back : ∀ b, S.W.A b → B.W.A b ∨ B.W.w.heap.size ≤ b
  loc : ∀ (k : Nat) (cs : List PV), S.σ[k]? = some cs → ∃ e, w.heap[ρ k]? = some (.cells ⟨cs.map (PV.real ρ)⟩ e (0, 0))
  locA : ∀ k, k < S.σ.length → ¬ S.W.A (ρ k) ∧ (ρ k ∈ B.ex ∨ B.W.w.heap.size ≤ ρ k)
  inj : ∀ j k, j < S.σ.length → k < S.σ.length → ρ j = ρ k → j = k
  cells : ∀ (k : Nat) (cs : List PV), S.σ[k]? = some cs → ∀ c ∈ cs, c.lt S.σ.length
  rc : ∀ (k g : Nat), B.rc[k]? = some g → k < S.σ.length ∧ ρ k = g
  own : ∀ (i : Nat) (o : Own), S.O[i]? = some o → w.ownsRow 0 o.e o.sz o.v o.n o.cs ∧
    ∀ b, o.v.ownBlock = some b → ¬ S.W.A b ∧ (b ∈ B.ex ∨ B.W.w.heap.size ≤ b) ∧ ∀ k, k < S.σ.length → ρ k ≠ b
  sep : ∀ (i j : Nat) (oi oj : Own) (b : Nat), S.O[i]? = some oi → S.O[j]? = some oj → oi.v.ownBlock = some b → oj.v.ownBlock = some b → i = j

/-- What is held: the variable k, where k + 1 is on the list; the slices that are owned, where 0 is. -/
structure Held (l : List Nat) (S S' : GS) : Prop where
  var : ∀ k, k + 1 ∈ l → S'.σ[k]? = S.σ[k]?
  own : 0 ∈ l → ∀ (i : Nat) (o : Own), S.O[i]? = some o → S'.O[i]? = some o

/-- What an operation, a call may leave: a later ghost state, in which what a list names is as it was. -/
structure Grow (prot : List Nat) (S S' : GS) : Prop where
  len : S.σ.length ≤ S'.σ.length
  le : S.W.Le S'.W
  prot : Held prot S S'

structure CallVC (P : Program) (B : Base) (f : FuncId) (args : List GV) (prot : List Nat) (S : GS) (K : GV → GS → Prop) : Prop where
  callable : Callable P f
  run : ∀ ρ w, St B ρ S w → Calls P f ⟨args.map (GV.real ρ)⟩ w fun e w' => ∃ (g : GV) (S' : GS) (ρ' : Nat → Nat),
    e = .returned (g.real ρ') ∧ (∀ k, k < S.σ.length → ρ' k = ρ k) ∧ Grow prot S S' ∧ g.lt S'.σ.length ∧ St B ρ' S' w' ∧ K g S'

structure RawVC (P : Program) (B : Base) (o : Oper) (f : Fr) (prot : List Nat) (S : GS) (K : GV → GS → Prop) : Prop where
  run : ∀ ρ w (ev : Operand → Value), (∀ x, ev x = (evG f x).real ρ) → St B ρ S w → ∃ (g : GV) (S' : GS) (ρ' : Nat → Nat) (w' : World),
    (execOp ev o).run P w = .ok (.value (g.real ρ')) w' ∧ (∀ k, k < S.σ.length → ρ' k = ρ k) ∧ Grow prot S S' ∧ g.lt S'.σ.length ∧ St B ρ' S' w' ∧ K g S'

/-- A cell that is never written again. -/
def Rd (W : PW) (a : Addr) (v : Value) : Prop := W.A a.block ∧ W.w.cell? a = some v
def Rds (W : PW) (a : Addr) (cs : List Value) : Prop := ∀ j v, cs[j]? = some v → Rd W (a.add j) v
/-- A cell of a slice that is owned. -/
def OwnRd (S : GS) (a : Addr) (v : Value) : Prop := ∃ (i : Nat) (o : Own) (b : Addr) (q c j : Nat), S.O[i]? = some o ∧ o.v = .slice (some b) q c ∧ a = b.add j ∧ o.cs[j]? = some v
def RdO (S : GS) (a : Addr) (v : Value) : Prop := Rd S.W a v ∨ OwnRd S a v
def RdsO (S : GS) (a : Addr) (cs : List Value) : Prop := ∀ j v, cs[j]? = some v → RdO S (a.add j) v

def splice (l : List PV) (o : Nat) (cs : List PV) : List PV := l.take o ++ cs ++ l.drop (o + cs.length)

/-- The parts of a literal, one behind the other. -/
def fillG (f : Fr) : List PV → List (Nat × Nat × Operand) → Option (List PV)
  | cs, [] => some cs
  | cs, (off, size, x) :: r =>
    let p := (evG f x).cells
    bif (evG f x).isClo then none else bif Nat.beq p.length size && Nat.ble (off + size) cs.length then fillG f (splice cs off p) r else none

def intVC (op : BinOp) (k : IntKind) (a b : Int) (K : GV → Prop) : Prop :=
  match op with
  | .add => ∃ r, r = k.wrap (a + b) ∧ K (.v (.int k r))
  | .sub => ∃ r, r = k.wrap (a - b) ∧ K (.v (.int k r))
  | .mul => ∃ r, r = k.wrap (a * b) ∧ K (.v (.int k r))
  | .quo => b ≠ 0 ∧ ∃ r, r = k.wrap (a.tdiv b) ∧ K (.v (.int k r))
  | .rem => b ≠ 0 ∧ K (.v (.int k (a.tmod b)))
  | .and => ∃ r, (Op.intBits .and k a b = pure (.int k r)) ∧ K (.v (.int k r))
  | .or => ∃ r, (Op.intBits .or k a b = pure (.int k r)) ∧ K (.v (.int k r))
  | .eql => K (.v (.bool (decide (a = b))))
  | .neq => K (.v (.bool (!decide (a = b))))
  | .lss => K (.v (.bool (decide (a < b))))
  | .leq => K (.v (.bool (decide (a ≤ b))))
  | .gtr => K (.v (.bool (decide (b < a))))
  | .geq => K (.v (.bool (decide (b ≤ a))))
  | _ => False

def strVC (op : BinOp) (a b : ByteArray) (K : GV → Prop) : Prop :=
  match op with
  | .add => ((a.data.toList.length : Int) + b.data.toList.length ≤ 9223372036854775807) ∧ K (.v (.string ⟨⟨a.data.toList ++ b.data.toList⟩⟩))
  | .eql => K (.v (.bool (decide (a.data.toList = b.data.toList))))
  | .neq => K (.v (.bool (!decide (a.data.toList = b.data.toList))))
  | .lss => K (.v (.bool (Op.bytesLess a.data.toList b.data.toList)))
  | _ => False

def byteV (b : UInt8) : Value := .int .u8 b.toNat
def isSh : BinOp → Bool
  | .shl | .shr => true
  | _ => false
def shV (op : BinOp) (k : IntKind) (a b : Int) : Int :=
  match op with
  | .shl => k.wrap (a * 2 ^ (min b.toNat k.bits))
  | _ => a.fdiv (2 ^ (min b.toNat k.bits))
def byteAt (l : List UInt8) (i : Nat) : Int := ((l[i]?).getD 0).toNat

def boundG (f : Fr) (d : Int) : Option Operand → Option Int
  | none => some d
  | some x => match evG f x with | .v (.int _ i) => some i | _ => none

def evs (f : Fr) : List Operand → List GV
  | [] => []
  | x :: r => evG f x :: evs f r

/-- A struct whose '==' is that of its cells. -/
def EqOK (P : Program) (t : TypeId) (ss : List TypeId) : Prop := P.eqGuardType P.depth t = false ∧ ∀ s, s ∈ ss → P.stoodInHeld s = false

/-- Scalars that '==' compares: bools, ints, strings. -/
def eqV : Nat → Value → Value → Option Bool
  | 0, .bool a, .bool b => some (decide (a = b))
  | 1, .int k a, .int k' b => match decide (k = k') with | true => some (decide (a = b)) | false => none
  | 2, .string a, .string b => some (decide (a.data.toList = b.data.toList))
  | _, _, _ => none
def eqVs : List Nat → List Value → List Value → Option Bool
  | [], [], [] => some true
  | k :: ks, a :: x, b :: y => match eqV k a b, eqVs ks x y with | some p, some q => some (p && q) | _, _ => none
  | _, _, _ => none
def eqCells : List Nat → List PV → List PV → Option Bool
  | [], [], [] => some true
  | k :: ks, .v a :: x, .v b :: y => match eqV k a b, eqCells ks x y with | some p, some q => some (p && q) | _, _ => none
  | _, _, _ => none

def vcOp (P : Program) (B : Base) (m : M) (f : Fr) (prot : List Nat) (S : GS) (K : GV → GS → Prop) : Prop :=
  match m with
  | .mv x => match evG f x with | .v a => K (.v a) S | .lp k o => K (.lp k o) S | .ag cs => K (.ag cs) S | .clo g caps => K (.clo g caps) S
  | .pick c a b => match evG f c with | .v (.bool t) => Branch (K (evG f a) S) (K (evG f b) S) t | _ => False
  | .nilck x => match evG f x with | .v (.pointer (some a)) => K (.v (.pointer (some a))) S | .lp k o => K (.lp k o) S | _ => False
  | .faddr off x => match evG f x with | .v (.pointer (some a)) => K (.v (.pointer (some (a.add off)))) S | .lp k o => K (.lp k (o + off)) S | _ => False
  | .ld1 x => match evG f x with
    | .v (.pointer (some a)) => ∃ v, RdO S a v ∧ K (.v v) S
    | .lp k o => match S.σ[k]? with
      | some cs => match cs[o]? with | some (.v x) => K (.v x) S | some (.lp j i) => K (.lp j i) S | none => False
      | none => False
    | _ => False
  | .ldN n x => match evG f x with
    | .v (.pointer (some a)) => ∃ cs : List Value, cs.length = n ∧ RdsO S a cs ∧ K (.v (.agg ⟨cs⟩)) S
    | .lp k o => match S.σ[k]? with
      | some cs => match Nat.ble (o + n) cs.length with | true => forceP ((cs.drop o).take n) fun l => K (.ag l) S | false => False
      | none => False
    | _ => False
  | .st n a x => match evG f a with
    | .lp k o => match S.σ[k]?, (evG f x).isClo with
      | some cs, false => match Nat.beq (evG f x).cells.length n && Nat.ble (o + n) cs.length && !prot.contains (k + 1) && onesB (evG f x).cells with
        | true => forceP (splice cs o (evG f x).cells) fun cs' => K (.v undef) (S.modσ fun σ => σ.set k cs')
        | false => False
      | _, _ => False
    | .v (.pointer (some p)) => match (evG f x).isClo, plainCells (evG f x).cells with
      | false, some us => ∃ (i : Nat) (o : Own) (b : Addr) (q c j : Nat), S.O[i]? = some o ∧ o.v = .slice (some b) q c ∧ p = b.add j ∧ us.length = n ∧ (∀ u ∈ us, u.oneCell' = true) ∧ j + n ≤ o.cs.length ∧ prot.contains 0 = false ∧
          K (.v undef) (S.modO fun O => O.set i { o with cs := o.cs.take j ++ us ++ o.cs.drop (j + n) })
      | _, _ => False
    | _ => False
  | .iaddr sz x i => match evG f x, evG f i with
    | .v (.slice A n _), .v (.int _ j) => (0 ≤ j ∧ j < n) ∧ ∃ a, A = some a ∧ K (.v (.pointer (some (a.add (j.toNat * sz))))) S
    | _, _ => False
  | .iaddrA len sz x i => match evG f x, evG f i with
    | .lp k o, .v (.int _ j) => (0 ≤ j ∧ j < len) ∧ K (.lp k (o + j.toNat * sz)) S
    | _, _ => False
  | .idx x i => match evG f x, evG f i with
    | .v (.string s), .v (.int _ j) => (0 ≤ j ∧ j < s.data.toList.length) ∧ K (.v (.int .u8 (byteAt s.data.toList j.toNat))) S
    | _, _ => False
  | .fld1 off x => match aggCells (evG f x) with
    | some cs => match cs[off]? with | some (.v x) => K (.v x) S | some (.lp j i) => K (.lp j i) S | none => False
    | none => False
  | .fldN off n x => match aggCells (evG f x) with
    | some cs => match Nat.ble (off + n) cs.length with | true => forceP ((cs.drop off).take n) fun l => K (.ag l) S | false => False
    | none => False
  | .slS x lo hi => match evG f x with
    | .v (.string s) => match boundG f 0 lo, boundG f s.data.toList.length hi with
      | some l, some h => (0 ≤ l ∧ l ≤ h ∧ h ≤ s.data.toList.length) ∧ K (.v (.string ⟨⟨(s.data.toList.drop l.toNat).take (h.toNat - l.toNat)⟩⟩)) S
      | _, _ => False
    | _ => False
  | .slV sz x lo hi => match evG f x with
    | .v (.slice A n c) => match boundG f 0 lo, boundG f n hi with
      | some l, some h => (0 ≤ l ∧ l ≤ h ∧ h ≤ c) ∧ K (.v (.slice (if c = l.toNat then A else A.map (·.add (l.toNat * sz))) (h.toNat - l.toNat) (c - l.toNat))) S
      | _, _ => False
    | _ => False
  | .ib op x y => match evG f x, evG f y with
    | .v (.int k a), .v (.int k' b) => match isSh op with
      | true => 0 ≤ b ∧ ∃ r, r = shV op k a b ∧ K (.v (.int k r)) S
      | false => k = k' ∧ intVC op k a b (fun g => K g S)
    | _, _ => False
  | .sb op x y => match evG f x, evG f y with
    | .v (.string a), .v (.string b) => strVC op a b (fun g => K g S)
    | _, _ => False
  | .bb op x y => match evG f x, evG f y, op with
    | .v (.bool a), .v (.bool b), .eql => K (.v (.bool (a == b))) S
    | .v (.bool a), .v (.bool b), .neq => K (.v (.bool (!(a == b)))) S
    | _, _, _ => False
  | .pnil neq x => match evG f x with
    | .v (.pointer (some _)) => K (.v (.bool neq)) S
    | .v (.pointer none) => K (.v (.bool (!neq))) S
    | .lp _ _ => K (.v (.bool neq)) S
    | _ => False
  | .eqA neq t ss ks x y => EqOK P t ss ∧ match aggCells (evG f x), aggCells (evG f y) with
    | some a, some b => match eqCells ks a b with
      | some r => K (.v (.bool (match neq with | true => !r | false => r))) S
      | none => False
    | _, _ => False
  | .not x => match evG f x with | .v (.bool t) => K (.v (.bool (!t))) S | _ => False
  | .lenS x => match evG f x with | .v (.string s) => K (.v (.int .i64 s.data.toList.length)) S | _ => False
  | .lenV x => match evG f x with | .v (.slice _ n _) => K (.v (.int .i64 n)) S | _ => False
  | .alloc _ zero => K (.lp S.σ.length 0) (S.modσ fun σ => σ ++ [zero.map .v])
  | .box _ x => match (evG f x).isClo with | false => forceP (evG f x).cells fun cs => K (.lp S.σ.length 0) (S.modσ fun σ => σ ++ [cs]) | true => False
  | .build zero parts => match fillG f (zero.map .v) parts with | some cs => forceP cs fun l => K (.ag l) S | none => False
  | .bslice _ zero len sz parts => match fillG f ((List.replicate len (zero.map PV.v)).flatten) parts with
    | some cs => match plainCells cs with
      | some vs => Nat.ble (len * sz) 16777216 = true ∧ ∀ (b : Nat) (W' : PW), S.W.Le W' → Rds W' ⟨b, 0, none⟩ vs → K (.v (.slice (some ⟨b, 0, none⟩) len len)) (S.setW W')
      | none => False
    | none => False
  | .mkslice e sz bytes zero l c => match evG f l, evG f c with
    | .v (.int _ n), .v (.int _ m) => (0 ≤ n ∧ n ≤ m ∧ m ≤ maxLen ∧ (bytes : Int) * m ≤ 140737488355328) ∧
        ∀ b, K (.v (.slice (some ⟨b, 0, none⟩) n.toNat m.toNat)) (S.modO fun O => O ++ [⟨.slice (some ⟨b, 0, none⟩) n.toNat m.toNat, e, sz, n.toNat, (List.replicate n.toNat zero).flatten⟩])
    | _, _ => False
  | .append e sz bytes d s => match evG f d, evG f s with
    | .v dv, .v (.slice A m _) => ∃ (i : Nat) (o : Own) (news : List Value), S.O[i]? = some o ∧ o.v = dv ∧ o.e = e ∧ o.sz = sz ∧ news.length = m * sz ∧
        (∀ u ∈ news, u.oneCell' = true) ∧ (0 < m → ∃ a, A = some a ∧ RdsO S a news) ∧ o.n + m ≤ maxLen ∧ (o.n + m) * bytes ≤ 140737488355328 ∧ prot.contains 0 = false ∧
        ∀ A' c', K (.v (.slice A' (o.n + m) c')) (S.modO fun O => O.set i ⟨.slice A' (o.n + m) c', e, sz, o.n + m, o.cs ++ news⟩)
    | _, _ => False
  | .call fid args => CallVC P B fid (evs f args) prot S K
  | .callv x args => match evG f x with
    | .v (.func (.func fid) first caps) => CallVC P B fid (first.toList.map .v ++ evs f args ++ caps.toList.map .v) prot S K
    | .clo fid caps => CallVC P B fid (evs f args ++ caps.map PV.gv) prot S K
    | _ => False
  | .mkfn fid caps => match asPVs (evs f caps) with | some l => K (.clo fid l) S | none => False
  | .ext x i => match evG f x with | .v (.tuple vs) => ∃ v, vs[i]? = some v ∧ K (.v v) S | _ => False
  | .conv k x => match evG f x with | .v (.int _ n) => ∃ r, r = k.wrap n ∧ K (.v (.int k r)) S | _ => False
  | .maxI x y => match evG f x, evG f y with | .v (.int k a), .v (.int k' b) => k = k' ∧ K (.v (.int k (if a ≤ b then b else a))) S | _, _ => False
  | .b2s x => match evG f x with
    | .v (.slice A n _) => ∃ l : List UInt8, l.length = n ∧ (0 < n → ∃ a, A = some a ∧ RdsO S a (l.map byteV)) ∧ K (.v (.string ⟨⟨l⟩⟩)) S
    | _ => False
  | .i2s x => match evG f x with | .v (.int _ n) => K (.v (.string (Utf8.encode n))) S | _ => False
  | .slV3 sz x lo hi mx => match evG f x with
    | .v (.slice A n c) => match boundG f 0 lo, boundG f n hi, boundG f 0 (some mx), hi with
      | some l, some h, some m, some _ => (0 ≤ l ∧ l ≤ h ∧ h ≤ m ∧ m ≤ c) ∧ K (.v (.slice (if m.toNat = l.toNat then A else A.map (·.add (l.toNat * sz))) (h.toNat - l.toNat) (m.toNat - l.toNat))) S
      | _, _, _, _ => False
    | _ => False
  | .s2b _ x => match evG f x with
    | .v (.string s) => s.data.toList.length ≤ maxLen ∧ ∀ (b c : Nat) (W' : PW), S.W.Le W' → s.data.toList.length ≤ c → c ≤ maxLen → Rds W' ⟨b, 0, none⟩ (s.data.toList.map byteV) → K (.v (.slice (some ⟨b, 0, none⟩) s.data.toList.length c)) (S.setW W')
    | _ => False
  | .raw o => RawVC P B o f prot S K

/-- The operation's own variable, where it reads one. -/
def depOf (m : M) (f : Fr) : List Nat :=
  match m with
  | .ld1 x => match evG f x with | .lp k _ => [k + 1] | .v (.pointer _) => [0] | _ => []
  | .ldN _ x => match evG f x with | .lp k _ => [k + 1] | .v (.pointer _) => [0] | _ => []
  | .b2s _ => [0]
  | _ => []

def vcMI (P : Program) (B : Base) (mi : MI) (f : Fr) (prot : List Nat) (S : GS) (K : Fr → GS → Prop) : Prop :=
  match mi.guard with
  | none => vcOp P B mi.op f prot S fun g S' => K (putF f mi.dst g) S'
  | some (s, want) => match f s with
    | .v (.bool b) => Branch
        (match want with | true => vcOp P B mi.op (upd f s (.v (.bool true))) prot S fun g S' => K (putF (upd f s (.v (.bool true))) mi.dst g) S' | false => K (putF (upd f s (.v (.bool true))) mi.dst (.v undef)) S)
        (match want with | false => vcOp P B mi.op (upd f s (.v (.bool false))) prot S fun g S' => K (putF (upd f s (.v (.bool false))) mi.dst g) S' | true => K (putF (upd f s (.v (.bool false))) mi.dst (.v undef)) S) b
    | .v (.tuple _) => K (putF f mi.dst (.v undef)) S
    | _ => False

def vcOps (P : Program) (B : Base) : List MI → Fr → GS → (Fr → GS → Prop) → Prop
  | [], f, S, K => K f S
  | mi :: r, f, S, K => vcMI P B mi f [] S fun f' S' => vcOps P B r f' S' K

def isQ : M → Bool
  | .st .. | .alloc .. | .box .. | .bslice .. | .mkslice .. | .append .. | .call .. | .callv .. | .s2b .. | .raw .. => false
  | _ => true

/-- In a region that draws: which variables an operation may not write: those that an operation ahead of it, which need not come ahead of it, has read. 'pend': the number of each such operation, its variables. -/
def protOf (mi : MI) : List (Nat × List Nat) → List Nat
  | [] => []
  | (i, ks) :: r => bif mi.past.contains i then protOf mi r else ks ++ protOf mi r

def vcD (P : Program) (B : Base) : DT → List (Nat × List Nat) → Fr → GS → (Fr → GS → Prop) → Prop
  | .nil, _, f, S, K => K f S
  | .op i m r, pend, f, S, K => match isQ m.op with
    | true => vcMI P B m f [] S fun f' S' => vcD P B r ((i, depOf m.op f) :: pend) f' S' K
    | false => vcMI P B m f (protOf m pend) S fun f' S' => vcD P B r pend f' S' K
  | .both a b, pend, f, S, K => vcD P B a pend f S K ∧ vcD P B b pend f S K

inductive Ex where
  | normal
  | exit (id : Nat)
  | ret

def inR : List (Nat × Nat) → Nat → Bool
  | [], _ => false
  | (a, b) :: r, i => (Nat.ble a i && Nat.blt i b) || inR r i
def mask (wr : List (Nat × Nat)) (g f : Fr) : Fr := fun i => bif inR wr i then g i else f i
def setL : List (Nat × GV) → Fr → Fr
  | [], f => f
  | (d, g) :: r, f => upd (setL r f) d g

def Own.isNil (o : Own) : Bool :=
  match o.v with
  | .slice none 0 0 => match o.n, o.cs with | 0, [] => true | _, _ => false
  | _ => false
/-- Fewer slices that are owned; and such as are nil. -/
def OLe (O O' : List Own) : Prop := (O'.filter fun o => !o.isNil).Sublist O

/-- What a loop's slots and variables are said to be is within its bounds. -/
def LoopOK (n : Nat) (wr : List (Nat × Nat)) {τ : Type} (sl : τ → List (Nat × GV)) (σ : τ → List (List PV)) : Prop :=
  ∀ t, (∀ p, p ∈ sl t → p.2.lt n ∧ inR wr p.1 = true) ∧ (σ t).length = n ∧ ∀ cs, cs ∈ σ t → ∀ c, c ∈ cs → c.lt n

def vc (P : Program) (B : Base) : MC → Fr → GS → (Ex → Fr → GS → Prop) → Prop
  | .skip, f, S, K => K .normal f S
  | .ops l, f, S, K => vcOps P B l f S (K .normal)
  | .dops t, f, S, K => vcD P B t [] f S (K .normal)
  | .seq a b, f, S, K => vc P B a f S fun e f' S' => match e with | .normal => vc P B b f' S' K | .exit id => K (.exit id) f' S' | .ret => K .ret f' S'
  | .cond c a b, f, S, K => match evG f c with | .v (.bool t) => Branch (vc P B a f S K) (vc P B b f S K) t | _ => False
  | .block id a, f, S, K => vc P B a f S fun e f' S' => match e with | .normal => K .normal f' S' | .exit i => (bif Nat.beq i id then K .normal f' S' else K (.exit i) f' S') | .ret => K .ret f' S'
  | .loop wr a, f, S, K => ∃ (τ : Type) (sl : τ → List (Nat × GV)) (σ : τ → List (List PV)) (O : τ → List Own) (I : τ → PW → Prop) (μ : τ → Nat) (t₀ : τ),
      (∀ p, p ∈ sl t₀ → f p.1 = p.2) ∧ S.σ = σ t₀ ∧ OLe S.O (O t₀) ∧ I t₀ S.W ∧ LoopOK S.σ.length wr sl σ ∧
      ∀ t W, S.W.Le W → I t W → ∀ g : Fr, vc P B a (setL (sl t) (mask wr g f)) ⟨σ t, O t, W⟩ fun e f' S' => match e with
        | .normal => ∃ t', (∀ p, p ∈ sl t' → f' p.1 = p.2) ∧ S'.σ.take S.σ.length = σ t' ∧ OLe S'.O (O t') ∧ I t' S'.W ∧ μ t' < μ t
        | .exit id => K (.exit id) f' S'
        | .ret => K .ret f' S'
  | .exit id, f, S, K => K (.exit id) f S
  | .ret, f, S, K => K .ret f S
  | .scope a, f, S, K => vc P B a f S K

end Go.Proofs.Ytcgbcbdgjhnlaaa
