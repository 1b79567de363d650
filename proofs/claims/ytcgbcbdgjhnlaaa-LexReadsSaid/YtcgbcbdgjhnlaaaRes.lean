/- From the model's code to resolved operations: the layout of types is looked up once; a region that draws its order gets one order in which it is walked. -/
import Derived.Test.YtcgbcbdgjhnlaaaGhost
namespace Go.Proofs.Ytcgbcbdgjhnlaaa

@[reducible] def T (n : Nat) : Operand := .tmp n
@[reducible] def KI (n : Int) : Operand := .const (.int .i64 n)
@[reducible] def KU (n : Int) : Operand := .const (.int .u8 n)
@[reducible] def KS (l : List UInt8) : Operand := .const (.string ⟨⟨l⟩⟩)
@[reducible] def KB (b : Bool) : Operand := .const (.bool b)
@[reducible] def FN (k : Nat) : Operand := .func k
@[reducible] def i_ (d : Nat) (m : M) : MI := ⟨some d, none, m, []⟩
@[reducible] def n_ (m : M) : MI := ⟨none, none, m, []⟩
@[reducible] def ig (d s : Nat) (b : Bool) (m : M) : MI := ⟨some d, some (s, b), m, []⟩
@[reducible] def ng (s : Nat) (b : Bool) (m : M) : MI := ⟨none, some (s, b), m, []⟩

@[reducible] def id_ (d : Nat) (m : M) (p : List Nat) : MI := ⟨some d, none, m, p⟩
@[reducible] def nd_ (m : M) (p : List Nat) : MI := ⟨none, none, m, p⟩
@[reducible] def igd (d s : Nat) (b : Bool) (m : M) (p : List Nat) : MI := ⟨some d, some (s, b), m, p⟩
@[reducible] def ngd (s : Nat) (b : Bool) (m : M) (p : List Nat) : MI := ⟨none, some (s, b), m, p⟩

/-- Is it an aggregate; how many cells. -/
def lay (P : Program) (t : TypeId) : Option (Bool × Nat) :=
  match P.underlying t, P.info? t with
  | some (.struct _), some i => some (true, i.size)
  | some (.array _ _), some i => some (true, i.size)
  | some _, some i => some (false, i.size)
  | _, _ => none

def resParts (P : Program) (fs : Array Field) : List (Nat × Operand) → Option (List (Nat × Nat × Operand))
  | [] => some []
  | (i, x) :: r => match fs[i]? with
    | some fd => match P.info? fd.type, resParts P fs r with | some ti, some l => some ((fd.offset, ti.size, x) :: l) | _, _ => none
    | none => none
def resPartsE (sz : Nat) : List (Nat × Operand) → List (Nat × Nat × Operand)
  | [] => []
  | (i, x) :: r => (i * sz, sz, x) :: resPartsE sz r

def plainGo (pe : TypeId → Option (List Nat × List TypeId)) : List Field → Nat → Option (List Nat × List TypeId)
  | [], _ => some ([], [])
  | fd :: r, off => bif fd.name == "_" || !Nat.beq fd.offset off then none else match pe fd.type with
    | some (n, a) => match plainGo pe r (off + n.length) with | some (m, b) => some (n ++ m, a ++ b) | none => none
    | none => none
/-- All cells of a struct are bools (0), ints (1), strings (2): these; the structs in it. -/
def plainEq (P : Program) : Nat → TypeId → Option (List Nat × List TypeId)
  | 0, _ => none
  | d + 1, t => match P.underlying t with
    | some .bool => some ([0], [])
    | some (.int _) => some ([1], [])
    | some .string => some ([2], [])
    | some (.struct fs) => match plainGo (plainEq P d) fs.toList 0, P.info? t with | some (n, l), some i => bif Nat.beq i.size n.length then some (n, t :: l) else none | _, _ => none
    | _ => none

def resOp (P : Program) (o : Oper) : M :=
  match o.op with
  | .move x => .mv x
  | .assign x => .mv x
  | .pick c a b => .pick c a b
  | .nilCheck x => .nilck x
  | .fieldAddr s x i => match P.underlying s with
    | some (.struct fs) => match fs[i]? with
      | some fd => match P.info? fd.type with
        | some ti => bif Nat.beq ti.size 0 then .raw o else .faddr fd.offset x
        | none => .raw o
      | none => .raw o
    | _ => .raw o
  | .load t a => match lay P t with
    | some (true, n) => .ldN n a
    | some (false, _) => .ld1 a
    | none => .raw o
  | .store t a x => match P.info? t with | some i => .st i.size a x | none => .raw o
  | .alloc e => match P.info? e with
    | some i => match i.zero with | some z => .alloc e z.cells.toList | none => .raw o
    | none => .raw o
  | .box e x => .box e x
  | .build t parts => match P.underlying t, P.info? t with
    | some (.struct fs), some i => match i.zero, resParts P fs parts.toList with
      | some z, some l => bif fs.toList.all fun fd => (P.info? fd.type).isSome then .build z.cells.toList l else .raw o
      | _, _ => .raw o
    | _, _ => .raw o
  | .buildSlice t len parts => match P.underlying t with
    | some (.slice e) => match P.info? e with
      | some i => match i.zero with | some z => bif (Nat.beq z.cells.size i.size && !Nat.beq i.size 0) && !Nat.beq len 0 then .bslice e z.cells.toList len i.size (resPartsE i.size parts.toList) else .raw o | none => .raw o
      | none => .raw o
    | _ => .raw o
  | .makeSlice t l c => match P.underlying t with
    | some (.slice e) => match P.info? e with
      | some i => match i.zero with | some z => bif Nat.beq z.cells.size i.size && !Nat.beq i.size 0 then .mkslice e i.size i.bytes z.cells.toList l c else .raw o | none => .raw o
      | none => .raw o
    | _ => .raw o
  | .indexAddr t x i => match P.underlying t with
    | some (.slice e) => match P.info? e with | some ti => .iaddr ti.size x i | none => .raw o
    | _ => .raw o
  | .index t x i => match P.underlying t with
    | some .string => .idx x i
    | _ => .raw o
  | .field t x i => match P.underlying t with
    | some (.struct fs) => match fs[i]? with
      | some fd => match lay P fd.type with
        | some (true, n) => .fldN fd.offset n x
        | some (false, _) => .fld1 fd.offset x
        | none => .raw o
      | none => .raw o
    | _ => .raw o
  | .slice t x lo hi none => match P.underlying t with
    | some .string => .slS x lo hi
    | some (.slice e) => match P.info? e with | some ti => .slV ti.size x lo hi | none => .raw o
    | _ => .raw o
  | .slice t x lo hi (some mx) => match P.underlying t with
    | some (.slice e) => match P.info? e, hi with | some ti, some _ => .slV3 ti.size x lo hi mx | _, _ => .raw o
    | _ => .raw o
  | .binOp op t x y _ => match P.underlying t with
    | some (.int _) => .ib op x y
    | some .string => .sb op x y
    | some .bool => .bb op x y
    | some (.pointer _) => match op, y with
      | .eql, .const (.pointer none) => .pnil false x
      | .neq, .const (.pointer none) => .pnil true x
      | _, _ => .raw o
    | some (.struct _) => match plainEq P 8 t with
      | some (ks, ss) => match op with
        | .eql => .eqA false t ss ks x y
        | .neq => .eqA true t ss ks x y
        | _ => .raw o
      | none => .raw o
    | _ => .raw o
  | .unOp .not _ x => .not x
  | .convert src dst x => match P.underlying src, P.underlying dst with
    | some (.int _), some (.int k) => .conv k x
    | some (.int _), some .string => .i2s x
    | some .string, some (.slice e) => match P.underlying e with | some (.int .u8) => .s2b e x | _ => .raw o
    | some (.slice e), some .string => match P.underlying e with | some (.int .u8) => .b2s x | _ => .raw o
    | _, _ => .raw o
  | .extract x i => .ext x i
  | .makeFunc (.func fid) first caps => match first.toList with | [] => .mkfn fid caps.toList | _ => .raw o
  | .call c => match c.callee with
    | .value (.func fid) => .call fid c.args.toList
    | .value x => .callv x c.args.toList
    | .builtin .len => match c.args.toList, c.argTypes.toList with
      | [x], [t] => match P.underlying t with
        | some .string => .lenS x
        | some (.slice _) => .lenV x
        | _ => .raw o
      | _, _ => .raw o
    | .builtin .append => match c.args.toList, c.argTypes.toList with
      | [d, s], [t, u] => bif Nat.beq t u then match P.underlying t with
          | some (.slice e) => match P.info? e with
            | some i => match i.zero with | some z => bif Nat.beq z.cells.size i.size && !Nat.beq i.size 0 then .append e i.size i.bytes d s else .raw o | none => .raw o
            | none => .raw o
          | _ => .raw o
        else .raw o
      | _, _ => .raw o
    | _ => .raw o
  | _ => .raw o

/-- Temporary, guard, operation. A temporary lies within the frame. -/
def resMI (P : Program) (N : Nat) (ops : Array Oper) (o : Oper) (past : List Nat) : Option MI :=
  match (match o.dst with | some d => Nat.blt d N | none => true) with
  | false => none
  | true => match o.guard with
    | none => some ⟨o.dst, none, resOp P o, past⟩
    | some (j, want) => match (ops[j]?).bind (·.dst) with
      | some s => some ⟨o.dst, some (s, want), resOp P o, past⟩
      | none => none

def resList (P : Program) (N : Nat) (ops : Array Oper) : List Oper → Option (List MI)
  | [] => some []
  | o :: r => match resMI P N ops o [], resList P N ops r with | some m, some l => some (m :: l) | _, _ => none

/-! ### The order of a region that draws -/

/-- The operations directly ahead of one, in every order. -/
def directs (ops : Array Oper) (i : Nat) : List Nat :=
  match ops[i]? with
  | some o => o.after.toList.filterMap fun e => bif Region.binds .any e then some e.on else none
  | none => []

def addNew (l : List Nat) : List Nat → List Nat
  | [] => l
  | j :: r => bif l.contains j then addNew l r else addNew (j :: l) r
def addPasts (l : List (List Nat)) : List Nat → List Nat → List Nat
  | acc, [] => acc
  | acc, j :: r => addPasts l (addNew acc (j :: l.getD j [])) r
/-- All operations ahead of one, in every order: the list's i-th entry, for the operations ahead of n. -/
def pasts (ops : Array Oper) : Nat → List (List Nat)
  | 0 => []
  | n + 1 => pastsStep ops n (pasts ops n)
where pastsStep (ops : Array Oper) (n : Nat) (l : List (List Nat)) : List (List Nat) := l ++ [addPasts l [] (directs ops n)]

/-- No two operations write one temporary; of two, one of which looks at what the other writes, one is ahead of the other in every order; none looks at what it writes itself. -/
def pairsOk (ops : Array Oper) (ps : List (List Nat)) (n : Nat) : Bool :=
  (List.range n).all fun i => (List.range n).all fun j => match ops[i]?, ops[j]? with
    | some oi, some oj => match oi.dst with
      | some d => (Nat.beq i j || !(oj.dst == some d)) && (!(oj.looksAt ops).contains d || (!Nat.beq i j && ((ps.getD j []).contains i || (ps.getD i []).contains j)))
      | none => true
    | _, _ => false

def ready1 (ops : Array Oper) (before : List Nat) (i : Nat) : Bool := !before.contains i && (directs ops i).all fun j => before.contains j

def isLd (ops : Array Oper) (i : Nat) : Bool :=
  match ops[i]? with
  | some o => match o.op with | .load _ _ => true | .convert _ _ _ => true | _ => false
  | none => false
def resDI (P : Program) (N : Nat) (ops : Array Oper) (ps : List (List Nat)) (i : Nat) : Option MI :=
  match ops[i]? with
  | some o => resMI P N ops o (bif isQ (resOp P o) then [] else (ps.getD i []).filter (isLd ops))
  | none => none

def isQat (P : Program) (ops : Array Oper) (i : Nat) : Bool := match ops[i]? with | some o => isQ (resOp P o) | none => false

def joinD : List (Option DT) → Option DT
  | [] => none
  | [x] => x
  | x :: r => match x, joinD r with | some a, some b => some (.both a b) | _, _ => none

/-- First whatever only reads and may come; then each of those that may come. -/
def dtree (P : Program) (N : Nat) (ops : Array Oper) (ps : List (List Nat)) : Nat → List Nat → Option DT
  | 0, before => bif (List.range ops.size).all (fun i => before.contains i) then some .nil else none
  | k + 1, before =>
    match (List.range ops.size).find? (fun i => ready1 ops before i && isQat P ops i) with
    | some i => match resDI P N ops ps i, dtree P N ops ps k (i :: before) with
      | some m, some r => some (.op i m r)
      | _, _ => none
    | none => joinD (((List.range ops.size).filter (ready1 ops before)).map fun i => match resDI P N ops ps i, dtree P N ops ps k (i :: before) with
      | some m, some r => some (.op i m r)
      | _, _ => none)

def directsLt (ops : Array Oper) : Bool := (List.range ops.size).all fun i => (directs ops i).all fun j => Nat.blt j i

def resDraw (P : Program) (N : Nat) (ops : Array Oper) : Option DT :=
  let ps := pasts ops ops.size
  bif directsLt ops && pairsOk ops ps ops.size && Region.noSelect ops then dtree P N ops ps ops.size [] else none

/-! ### Code -/

def merge1 (d : Nat) : List (Nat × Nat) → List (Nat × Nat)
  | [] => [(d, d + 1)]
  | (a, b) :: r => bif Nat.ble a d && Nat.blt d b then (a, b) :: r else bif Nat.beq d b && Nat.ble a d then (a, b + 1) :: r else (a, b) :: merge1 d r
def wr1 (m : MI) (l : List (Nat × Nat)) : List (Nat × Nat) :=
  match m.guard with
  | some (s, _) => merge1 s (match m.dst with | some d => merge1 d l | none => l)
  | none => (match m.dst with | some d => merge1 d l | none => l)
def wrL : List MI → List (Nat × Nat) → List (Nat × Nat)
  | [], l => l
  | m :: r, l => wrL r (wr1 m l)
def wrD : DT → List (Nat × Nat) → List (Nat × Nat)
  | .nil, l => l
  | .op _ m r, l => wrD r (wrL [m] l)
  | .both a b, l => wrD b (wrD a l)
def wrC : MC → List (Nat × Nat) → List (Nat × Nat)
  | .ops l, w => wrL l w
  | .dops t, w => wrD t w
  | .seq a b, w => wrC b (wrC a w)
  | .cond _ a b, w => wrC b (wrC a w)
  | .block _ a, w => wrC a w
  | .loop _ a, w => wrC a w
  | .scope a, w => wrC a w
  | _, w => w

def resC (P : Program) (N : Nat) : Code → Option MC
  | .skip => some .skip
  | .region _ ops false => match resList P N ops ops.toList with | some l => some (.ops l) | none => none
  | .region _ ops true => match resDraw P N ops with | some t => some (.dops t) | none => none
  | .seq a b => match resC P N a, resC P N b with | some x, some y => some (.seq x y) | _, _ => none
  | .cond c a b => match resC P N a, resC P N b with | some x, some y => some (.cond c x y) | _, _ => none
  | .block id a => match resC P N a with | some x => some (.block id x) | none => none
  | .loop a => match resC P N a with | some x => some (.loop (wrC x []) x) | none => none
  | .exit id => some (.exit id)
  | .scope a => match resC P N a with | some x => some (.scope x) | none => none
  | .ret => some .ret
  | _ => none

inductive RV where
  | tmp (t : Nat)
  | cell (t n : Nat)

def resR (P : Program) : List ResultVar → Option (List RV)
  | [] => some []
  | .tmp t :: r => match resR P r with | some l => some (.tmp t :: l) | none => none
  | .cell t ty :: r => match lay P ty, resR P r with | some (true, n), some l => some (.cell t n :: l) | _, _ => none

structure MF where
  N : Nat
  rs : List RV
  code : MC

def resF (P : Program) (fn : Func) : Option MF :=
  match fn.body with
  | some c => match resC P fn.ntmps c, resR P fn.results.toList with
    | some m, some l => some ⟨fn.ntmps, l, m⟩
    | _, _ => none
  | none => none

end Go.Proofs.Ytcgbcbdgjhnlaaa
