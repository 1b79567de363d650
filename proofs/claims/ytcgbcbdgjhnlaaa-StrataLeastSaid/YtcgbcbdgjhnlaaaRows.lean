/-
  No cell of these rows narrows 'for every input' (looked for: loops, veiled, ifaces, maps, wideKeys, modest, calm, conditions, laid).
  DERIVED. THE GIVEN ROWS OF THIS SEAT. 18 by the template 'for every input the law returns true; each argument reads behind the call as it read before'; 0 by the template 'total and deterministic' (their statements: YtcgbcbdgjhnlaaaTotals.lean).
  GIVEN WITH THE SEED: the statements are not yours to turn. If you find one false, say at which input.
  Laid BY PROGRAM, IN A SANDBOX (cutbox-rows.mjs): the forced cells as the released guide's own fill.sh prints them over the translation 4d7e4bbc675fb5b2… (all of the seat's roots in one cut). By AI agents, Wed Nov 11 2026. No macro, syntax, notation, axiom, sorry.
-/
import Derived.Test.YtcgbcbdgjhnlaaaChecked
import GoSem.Claim
import GoSem.ClaimJoined
import GoSem.ClaimMapViews
import Derived.JoinedTies
import Derived.KernelRfl
namespace Go.Proofs.Ytcgbcbdgjhnlaaa
/- THE CELL 'sum', in the pinned program and in every row, IS THE sha256 OF THE DUMP (.gsa) THAT YtcgbcbdgjhnlaaaProg.lean LOADS. Nothing in Lean hashes anything: it is a label: what it is worth is what the hold of that sum in a sandbox is worth. -/
noncomputable def Try.pinned : Pinned := { name := "ytcgbcbdgjhnlaaa", sum := "4d7e4bbc675fb5b2dc8aac44938f159ced4395424c1929893fef7d42d93eb9a9", checked := Try.checked }
namespace Rows
def none {H : Type} : Left H := { results := [], args := [] }

/-- 'doorwardlaw15.LexRemarks': WHATEVER THE INPUT: true; the input reads as it did. -/
def lexRemarksSpec : ChangeSpec := { name := "lexRemarks", fn := fun _ => fun
  | [d1, d2, d3] => { results := [.lit (.bool true)], args := [d1, d2, d3] }
  | _ => none }
def lexRemarksRow : OpenClaim := { program := "ytcgbcbdgjhnlaaa", sum := "4d7e4bbc675fb5b2dc8aac44938f159ced4395424c1929893fef7d42d93eb9a9", func := "doorward/doorwardlaw15.LexRemarks", spec := "lexRemarks", inPlace := ["internal/bytealg.IndexByteString"], unfollowed := true, recurses := true, plainKeys := false, apart := false }
def LexRemarksSaid : Prop := lexRemarksRow.holds Try.pinned (OpenSpec.ofChange lexRemarksSpec)

/-- ITS FALSE NEIGHBOUR: 'it returns false'. Refute it at one input. -/
def lexRemarksWrong : ChangeSpec := { name := "lexRemarks", fn := fun _ => fun
  | [d1, d2, d3] => { results := [.lit (.bool false)], args := [d1, d2, d3] }
  | _ => none }
def LexRemarksWrongFalsely : Prop := lexRemarksRow.holds Try.pinned (OpenSpec.ofChange lexRemarksWrong)

/-- 'doorwardlaw15.LexBig': WHATEVER THE INPUT: true; the input reads as it did. -/
def lexBigSpec : ChangeSpec := { name := "lexBig", fn := fun _ => fun
  | [d] => { results := [.lit (.bool true)], args := [d] }
  | _ => none }
def lexBigRow : OpenClaim := { program := "ytcgbcbdgjhnlaaa", sum := "4d7e4bbc675fb5b2dc8aac44938f159ced4395424c1929893fef7d42d93eb9a9", func := "doorward/doorwardlaw15.LexBig", spec := "lexBig", inPlace := ["internal/bytealg.IndexByteString"], unfollowed := true, recurses := true, plainKeys := false, apart := false }
def LexBigSaid : Prop := lexBigRow.holds Try.pinned (OpenSpec.ofChange lexBigSpec)

/-- ITS FALSE NEIGHBOUR: 'it returns false'. Refute it at one input. -/
def lexBigWrong : ChangeSpec := { name := "lexBig", fn := fun _ => fun
  | [d] => { results := [.lit (.bool false)], args := [d] }
  | _ => none }
def LexBigWrongFalsely : Prop := lexBigRow.holds Try.pinned (OpenSpec.ofChange lexBigWrong)

/-- 'doorwardlaw15.LexReads': WHATEVER THE INPUT: true; the input reads as it did. -/
def lexReadsSpec : ChangeSpec := { name := "lexReads", fn := fun _ => fun
  | [d] => { results := [.lit (.bool true)], args := [d] }
  | _ => none }
def lexReadsRow : OpenClaim := { program := "ytcgbcbdgjhnlaaa", sum := "4d7e4bbc675fb5b2dc8aac44938f159ced4395424c1929893fef7d42d93eb9a9", func := "doorward/doorwardlaw15.LexReads", spec := "lexReads", inPlace := ["internal/bytealg.IndexByteString", "internal/abi.NoEscape", "internal/bytealg.MakeNoZero"], unfollowed := true, recurses := true, plainKeys := false, apart := false }
def LexReadsSaid : Prop := lexReadsRow.holds Try.pinned (OpenSpec.ofChange lexReadsSpec)

/-- ITS FALSE NEIGHBOUR: 'it returns false'. Refute it at one input. -/
def lexReadsWrong : ChangeSpec := { name := "lexReads", fn := fun _ => fun
  | [d] => { results := [.lit (.bool false)], args := [d] }
  | _ => none }
def LexReadsWrongFalsely : Prop := lexReadsRow.holds Try.pinned (OpenSpec.ofChange lexReadsWrong)

/-- 'doorwardlaw15.LexBack': WHATEVER THE INPUT: true; the input reads as it did. -/
def lexBackSpec : ChangeSpec := { name := "lexBack", fn := fun _ => fun
  | [d] => { results := [.lit (.bool true)], args := [d] }
  | _ => none }
def lexBackRow : OpenClaim := { program := "ytcgbcbdgjhnlaaa", sum := "4d7e4bbc675fb5b2dc8aac44938f159ced4395424c1929893fef7d42d93eb9a9", func := "doorward/doorwardlaw15.LexBack", spec := "lexBack", inPlace := ["internal/bytealg.IndexByteString", "internal/abi.NoEscape", "internal/bytealg.MakeNoZero"], unfollowed := true, recurses := true, plainKeys := false, apart := false }
def LexBackSaid : Prop := lexBackRow.holds Try.pinned (OpenSpec.ofChange lexBackSpec)

/-- ITS FALSE NEIGHBOUR: 'it returns false'. Refute it at one input. -/
def lexBackWrong : ChangeSpec := { name := "lexBack", fn := fun _ => fun
  | [d] => { results := [.lit (.bool false)], args := [d] }
  | _ => none }
def LexBackWrongFalsely : Prop := lexBackRow.holds Try.pinned (OpenSpec.ofChange lexBackWrong)

/-- 'doorwardlaw11.TupleParses': WHATEVER THE INPUT: true; the input reads as it did. -/
def tupleParsesSpec : ChangeSpec := { name := "tupleParses", fn := fun _ => fun
  | [d] => { results := [.lit (.bool true)], args := [d] }
  | _ => none }
def tupleParsesRow : OpenClaim := { program := "ytcgbcbdgjhnlaaa", sum := "4d7e4bbc675fb5b2dc8aac44938f159ced4395424c1929893fef7d42d93eb9a9", func := "doorward/doorwardlaw11.TupleParses", spec := "tupleParses", inPlace := ["internal/bytealg.IndexByteString", "internal/bytealg.IndexString"], unfollowed := true, recurses := true, named := ["internal/bytealg.MaxLen"], plainKeys := false, apart := false }
def TupleParsesSaid : Prop := tupleParsesRow.holds Try.pinned (OpenSpec.ofChange tupleParsesSpec)

/-- ITS FALSE NEIGHBOUR: 'it returns false'. Refute it at one input. -/
def tupleParsesWrong : ChangeSpec := { name := "tupleParses", fn := fun _ => fun
  | [d] => { results := [.lit (.bool false)], args := [d] }
  | _ => none }
def TupleParsesWrongFalsely : Prop := tupleParsesRow.holds Try.pinned (OpenSpec.ofChange tupleParsesWrong)

/-- 'doorwardlaw11.TupleNames': WHATEVER THE INPUT: true; the input reads as it did. -/
def tupleNamesSpec : ChangeSpec := { name := "tupleNames", fn := fun _ => fun
  | [d1, d2] => { results := [.lit (.bool true)], args := [d1, d2] }
  | _ => none }
def tupleNamesRow : OpenClaim := { program := "ytcgbcbdgjhnlaaa", sum := "4d7e4bbc675fb5b2dc8aac44938f159ced4395424c1929893fef7d42d93eb9a9", func := "doorward/doorwardlaw11.TupleNames", spec := "tupleNames", inPlace := ["internal/bytealg.IndexByteString", "internal/bytealg.IndexString"], unfollowed := true, recurses := true, named := ["internal/bytealg.MaxLen"], plainKeys := false, apart := false }
def TupleNamesSaid : Prop := tupleNamesRow.holds Try.pinned (OpenSpec.ofChange tupleNamesSpec)

/-- ITS FALSE NEIGHBOUR: 'it returns false'. Refute it at one input. -/
def tupleNamesWrong : ChangeSpec := { name := "tupleNames", fn := fun _ => fun
  | [d1, d2] => { results := [.lit (.bool false)], args := [d1, d2] }
  | _ => none }
def TupleNamesWrongFalsely : Prop := tupleNamesRow.holds Try.pinned (OpenSpec.ofChange tupleNamesWrong)

/-- 'doorwardlaw11.TupleBack': WHATEVER THE INPUT: true; the input reads as it did. -/
def tupleBackSpec : ChangeSpec := { name := "tupleBack", fn := fun _ => fun
  | [d1, d2, d3] => { results := [.lit (.bool true)], args := [d1, d2, d3] }
  | _ => none }
def tupleBackRow : OpenClaim := { program := "ytcgbcbdgjhnlaaa", sum := "4d7e4bbc675fb5b2dc8aac44938f159ced4395424c1929893fef7d42d93eb9a9", func := "doorward/doorwardlaw11.TupleBack", spec := "tupleBack", inPlace := ["internal/bytealg.IndexByteString", "internal/bytealg.IndexString"], unfollowed := true, recurses := true, named := ["internal/bytealg.MaxLen"], plainKeys := false, apart := false }
def TupleBackSaid : Prop := tupleBackRow.holds Try.pinned (OpenSpec.ofChange tupleBackSpec)

/-- ITS FALSE NEIGHBOUR: 'it returns false'. Refute it at one input. -/
def tupleBackWrong : ChangeSpec := { name := "tupleBack", fn := fun _ => fun
  | [d1, d2, d3] => { results := [.lit (.bool false)], args := [d1, d2, d3] }
  | _ => none }
def TupleBackWrongFalsely : Prop := tupleBackRow.holds Try.pinned (OpenSpec.ofChange tupleBackWrong)

/-- 'doorwardlaw11.TupleTexts': WHATEVER THE INPUT: true; the input reads as it did. -/
def tupleTextsSpec : ChangeSpec := { name := "tupleTexts", fn := fun _ => fun
  | [d] => { results := [.lit (.bool true)], args := [d] }
  | _ => none }
def tupleTextsRow : OpenClaim := { program := "ytcgbcbdgjhnlaaa", sum := "4d7e4bbc675fb5b2dc8aac44938f159ced4395424c1929893fef7d42d93eb9a9", func := "doorward/doorwardlaw11.TupleTexts", spec := "tupleTexts", inPlace := ["internal/bytealg.IndexByteString", "internal/bytealg.IndexString"], unfollowed := true, recurses := true, named := ["internal/bytealg.MaxLen"], plainKeys := false, apart := false }
def TupleTextsSaid : Prop := tupleTextsRow.holds Try.pinned (OpenSpec.ofChange tupleTextsSpec)

/-- ITS FALSE NEIGHBOUR: 'it returns false'. Refute it at one input. -/
def tupleTextsWrong : ChangeSpec := { name := "tupleTexts", fn := fun _ => fun
  | [d] => { results := [.lit (.bool false)], args := [d] }
  | _ => none }
def TupleTextsWrongFalsely : Prop := tupleTextsRow.holds Try.pinned (OpenSpec.ofChange tupleTextsWrong)

/-- 'doorwardlaw16.RuleParses': WHATEVER THE INPUT: true; the input reads as it did. -/
def ruleParsesSpec : ChangeSpec := { name := "ruleParses", fn := fun _ => fun
  | [d] => { results := [.lit (.bool true)], args := [d] }
  | _ => none }
def ruleParsesRow : OpenClaim := { program := "ytcgbcbdgjhnlaaa", sum := "4d7e4bbc675fb5b2dc8aac44938f159ced4395424c1929893fef7d42d93eb9a9", func := "doorward/doorwardlaw16.RuleParses", spec := "ruleParses", inPlace := ["internal/bytealg.IndexByteString", "internal/bytealg.IndexString"], unfollowed := true, recurses := true, named := ["internal/bytealg.MaxLen"], plainKeys := false, apart := false }
def RuleParsesSaid : Prop := ruleParsesRow.holds Try.pinned (OpenSpec.ofChange ruleParsesSpec)

/-- ITS FALSE NEIGHBOUR: 'it returns false'. Refute it at one input. -/
def ruleParsesWrong : ChangeSpec := { name := "ruleParses", fn := fun _ => fun
  | [d] => { results := [.lit (.bool false)], args := [d] }
  | _ => none }
def RuleParsesWrongFalsely : Prop := ruleParsesRow.holds Try.pinned (OpenSpec.ofChange ruleParsesWrong)

/-- 'doorwardlaw16.RuleDeep': WHATEVER THE INPUT: true; the input reads as it did. -/
def ruleDeepSpec : ChangeSpec := { name := "ruleDeep", fn := fun _ => fun
  | [d1, d2, d3] => { results := [.lit (.bool true)], args := [d1, d2, d3] }
  | _ => none }
def ruleDeepRow : OpenClaim := { program := "ytcgbcbdgjhnlaaa", sum := "4d7e4bbc675fb5b2dc8aac44938f159ced4395424c1929893fef7d42d93eb9a9", func := "doorward/doorwardlaw16.RuleDeep", spec := "ruleDeep", inPlace := ["internal/bytealg.IndexByteString", "internal/bytealg.IndexString"], unfollowed := true, recurses := true, named := ["internal/bytealg.MaxLen"], plainKeys := false, apart := false }
def RuleDeepSaid : Prop := ruleDeepRow.holds Try.pinned (OpenSpec.ofChange ruleDeepSpec)

/-- ITS FALSE NEIGHBOUR: 'it returns false'. Refute it at one input. -/
def ruleDeepWrong : ChangeSpec := { name := "ruleDeep", fn := fun _ => fun
  | [d1, d2, d3] => { results := [.lit (.bool false)], args := [d1, d2, d3] }
  | _ => none }
def RuleDeepWrongFalsely : Prop := ruleDeepRow.holds Try.pinned (OpenSpec.ofChange ruleDeepWrong)

/-- 'doorwardlaw16.RuleMany': WHATEVER THE INPUT: true; the input reads as it did. -/
def ruleManySpec : ChangeSpec := { name := "ruleMany", fn := fun _ => fun
  | [d1, d2, d3, d4] => { results := [.lit (.bool true)], args := [d1, d2, d3, d4] }
  | _ => none }
def ruleManyRow : OpenClaim := { program := "ytcgbcbdgjhnlaaa", sum := "4d7e4bbc675fb5b2dc8aac44938f159ced4395424c1929893fef7d42d93eb9a9", func := "doorward/doorwardlaw16.RuleMany", spec := "ruleMany", inPlace := ["internal/bytealg.IndexByteString", "internal/bytealg.IndexString"], unfollowed := true, recurses := true, named := ["internal/bytealg.MaxLen"], plainKeys := false, apart := false }
def RuleManySaid : Prop := ruleManyRow.holds Try.pinned (OpenSpec.ofChange ruleManySpec)

/-- ITS FALSE NEIGHBOUR: 'it returns false'. Refute it at one input. -/
def ruleManyWrong : ChangeSpec := { name := "ruleMany", fn := fun _ => fun
  | [d1, d2, d3, d4] => { results := [.lit (.bool false)], args := [d1, d2, d3, d4] }
  | _ => none }
def RuleManyWrongFalsely : Prop := ruleManyRow.holds Try.pinned (OpenSpec.ofChange ruleManyWrong)

/-- 'doorwardlaw17.ShowExprs': WHATEVER THE INPUT: true; the input reads as it did. -/
def showExprsSpec : ChangeSpec := { name := "showExprs", fn := fun _ => fun
  | [d] => { results := [.lit (.bool true)], args := [d] }
  | _ => none }
def showExprsRow : OpenClaim := { program := "ytcgbcbdgjhnlaaa", sum := "4d7e4bbc675fb5b2dc8aac44938f159ced4395424c1929893fef7d42d93eb9a9", func := "doorward/doorwardlaw17.ShowExprs", spec := "showExprs", inPlace := ["internal/bytealg.IndexByteString", "internal/bytealg.IndexString"], unfollowed := true, recurses := true, named := ["internal/bytealg.MaxLen"], plainKeys := false, apart := false }
def ShowExprsSaid : Prop := showExprsRow.holds Try.pinned (OpenSpec.ofChange showExprsSpec)

/-- ITS FALSE NEIGHBOUR: 'it returns false'. Refute it at one input. -/
def showExprsWrong : ChangeSpec := { name := "showExprs", fn := fun _ => fun
  | [d] => { results := [.lit (.bool false)], args := [d] }
  | _ => none }
def ShowExprsWrongFalsely : Prop := showExprsRow.holds Try.pinned (OpenSpec.ofChange showExprsWrong)

/-- 'doorwardlaw17.ShowBack': WHATEVER THE INPUT: true; the input reads as it did. -/
def showBackSpec : ChangeSpec := { name := "showBack", fn := fun _ => fun
  | [d1, d2] => { results := [.lit (.bool true)], args := [d1, d2] }
  | _ => none }
def showBackRow : OpenClaim := { program := "ytcgbcbdgjhnlaaa", sum := "4d7e4bbc675fb5b2dc8aac44938f159ced4395424c1929893fef7d42d93eb9a9", func := "doorward/doorwardlaw17.ShowBack", spec := "showBack", inPlace := ["internal/abi.NoEscape", "internal/bytealg.IndexByteString", "internal/bytealg.IndexString"], unfollowed := true, recurses := true, named := ["internal/bytealg.MaxLen"], plainKeys := false, apart := false }
def ShowBackSaid : Prop := showBackRow.holds Try.pinned (OpenSpec.ofChange showBackSpec)

/-- ITS FALSE NEIGHBOUR: 'it returns false'. Refute it at one input. -/
def showBackWrong : ChangeSpec := { name := "showBack", fn := fun _ => fun
  | [d1, d2] => { results := [.lit (.bool false)], args := [d1, d2] }
  | _ => none }
def ShowBackWrongFalsely : Prop := showBackRow.holds Try.pinned (OpenSpec.ofChange showBackWrong)

/-- 'doorwardlaw18.StrataLeast': WHATEVER THE INPUT: true; the input reads as it did. -/
def strataLeastSpec : ChangeSpec := { name := "strataLeast", fn := fun _ => fun
  | [d] => { results := [.lit (.bool true)], args := [d] }
  | _ => none }
def strataLeastRow : OpenClaim := { program := "ytcgbcbdgjhnlaaa", sum := "4d7e4bbc675fb5b2dc8aac44938f159ced4395424c1929893fef7d42d93eb9a9", func := "doorward/doorwardlaw18.StrataLeast", spec := "strataLeast", inPlace := ["internal/bytealg.IndexByteString", "internal/bytealg.IndexString"], unfollowed := true, recurses := true, named := ["internal/bytealg.MaxLen"], plainKeys := false, apart := false }
def StrataLeastSaid : Prop := strataLeastRow.holds Try.pinned (OpenSpec.ofChange strataLeastSpec)

/-- ITS FALSE NEIGHBOUR: 'it returns false'. Refute it at one input. -/
def strataLeastWrong : ChangeSpec := { name := "strataLeast", fn := fun _ => fun
  | [d] => { results := [.lit (.bool false)], args := [d] }
  | _ => none }
def StrataLeastWrongFalsely : Prop := strataLeastRow.holds Try.pinned (OpenSpec.ofChange strataLeastWrong)

/-- 'doorwardlaw18.StrataChain': WHATEVER THE INPUT: true; the input reads as it did. -/
def strataChainSpec : ChangeSpec := { name := "strataChain", fn := fun _ => fun
  | [d1, d2] => { results := [.lit (.bool true)], args := [d1, d2] }
  | _ => none }
def strataChainRow : OpenClaim := { program := "ytcgbcbdgjhnlaaa", sum := "4d7e4bbc675fb5b2dc8aac44938f159ced4395424c1929893fef7d42d93eb9a9", func := "doorward/doorwardlaw18.StrataChain", spec := "strataChain", inPlace := ["internal/bytealg.IndexByteString", "internal/bytealg.IndexString"], unfollowed := true, recurses := true, named := ["internal/bytealg.MaxLen"], plainKeys := false, apart := false }
def StrataChainSaid : Prop := strataChainRow.holds Try.pinned (OpenSpec.ofChange strataChainSpec)

/-- ITS FALSE NEIGHBOUR: 'it returns false'. Refute it at one input. -/
def strataChainWrong : ChangeSpec := { name := "strataChain", fn := fun _ => fun
  | [d1, d2] => { results := [.lit (.bool false)], args := [d1, d2] }
  | _ => none }
def StrataChainWrongFalsely : Prop := strataChainRow.holds Try.pinned (OpenSpec.ofChange strataChainWrong)

/-- 'doorwardlaw18.StrataNumbers': WHATEVER THE INPUT: true; the input reads as it did. -/
def strataNumbersSpec : ChangeSpec := { name := "strataNumbers", fn := fun _ => fun
  | [d] => { results := [.lit (.bool true)], args := [d] }
  | _ => none }
def strataNumbersRow : OpenClaim := { program := "ytcgbcbdgjhnlaaa", sum := "4d7e4bbc675fb5b2dc8aac44938f159ced4395424c1929893fef7d42d93eb9a9", func := "doorward/doorwardlaw18.StrataNumbers", spec := "strataNumbers", inPlace := ["internal/bytealg.IndexByteString", "internal/bytealg.IndexString"], unfollowed := true, recurses := true, named := ["internal/bytealg.MaxLen"], plainKeys := false, apart := false }
def StrataNumbersSaid : Prop := strataNumbersRow.holds Try.pinned (OpenSpec.ofChange strataNumbersSpec)

/-- ITS FALSE NEIGHBOUR: 'it returns false'. Refute it at one input. -/
def strataNumbersWrong : ChangeSpec := { name := "strataNumbers", fn := fun _ => fun
  | [d] => { results := [.lit (.bool false)], args := [d] }
  | _ => none }
def StrataNumbersWrongFalsely : Prop := strataNumbersRow.holds Try.pinned (OpenSpec.ofChange strataNumbersWrong)

/-- 'doorwardlaw19.SpaceKept': WHATEVER THE INPUT: true; the input reads as it did. -/
def spaceKeptSpec : ChangeSpec := { name := "spaceKept", fn := fun _ => fun
  | [d1, d2, d3] => { results := [.lit (.bool true)], args := [d1, d2, d3] }
  | _ => none }
def spaceKeptRow : OpenClaim := { program := "ytcgbcbdgjhnlaaa", sum := "4d7e4bbc675fb5b2dc8aac44938f159ced4395424c1929893fef7d42d93eb9a9", func := "doorward/doorwardlaw19.SpaceKept", spec := "spaceKept", inPlace := ["internal/bytealg.IndexByteString", "internal/bytealg.IndexString"], unfollowed := true, recurses := true, named := ["internal/bytealg.MaxLen"], plainKeys := false, apart := false }
def SpaceKeptSaid : Prop := spaceKeptRow.holds Try.pinned (OpenSpec.ofChange spaceKeptSpec)

/-- ITS FALSE NEIGHBOUR: 'it returns false'. Refute it at one input. -/
def spaceKeptWrong : ChangeSpec := { name := "spaceKept", fn := fun _ => fun
  | [d1, d2, d3] => { results := [.lit (.bool false)], args := [d1, d2, d3] }
  | _ => none }
def SpaceKeptWrongFalsely : Prop := spaceKeptRow.holds Try.pinned (OpenSpec.ofChange spaceKeptWrong)

/-- 'doorwardlaw19.SpaceNobody': WHATEVER THE INPUT: true; the input reads as it did. -/
def spaceNobodySpec : ChangeSpec := { name := "spaceNobody", fn := fun _ => fun
  | [d] => { results := [.lit (.bool true)], args := [d] }
  | _ => none }
def spaceNobodyRow : OpenClaim := { program := "ytcgbcbdgjhnlaaa", sum := "4d7e4bbc675fb5b2dc8aac44938f159ced4395424c1929893fef7d42d93eb9a9", func := "doorward/doorwardlaw19.SpaceNobody", spec := "spaceNobody", inPlace := ["internal/bytealg.IndexByteString", "internal/bytealg.IndexString"], unfollowed := true, recurses := true, named := ["internal/bytealg.MaxLen"], plainKeys := false, apart := false }
def SpaceNobodySaid : Prop := spaceNobodyRow.holds Try.pinned (OpenSpec.ofChange spaceNobodySpec)

/-- ITS FALSE NEIGHBOUR: 'it returns false'. Refute it at one input. -/
def spaceNobodyWrong : ChangeSpec := { name := "spaceNobody", fn := fun _ => fun
  | [d] => { results := [.lit (.bool false)], args := [d] }
  | _ => none }
def SpaceNobodyWrongFalsely : Prop := spaceNobodyRow.holds Try.pinned (OpenSpec.ofChange spaceNobodyWrong)

/- THE SECOND FORM. 'bulk': how many values and letters a reading holds, each counted each time it is reached (what is shared counts as often as it is met; a slice's spare places count too). A statement '..UptoSaid' is the law's where the arguments, and the package variables that the reading takes, are together of bulk at most 1048576: NARROWER than '..Said'. Prove '..Said' where nothing that the law and all that it calls make is longer than what came in: it says more and counts as full. Else prove '..UptoSaid'. A law counts once. -/
mutual
def uptoBulk {H : Type} : DataW H → Nat
  | .lit (.string bytes) => bytes.length + 1
  | .lit _ => 1
  | .nil => 1
  | .ptr d => uptoBulk d + 1
  | .slice elems spare => uptoBulkAll elems + uptoBulkAll spare + 1
  | .agg parts => uptoBulkAll parts + 1
  | .iface _ d => uptoBulk d + 1
  | .map entries => uptoBulkEntries entries + 1
  | .held _ => 1
def uptoBulkAll {H : Type} : List (DataW H) → Nat
  | [] => 0
  | d :: r => uptoBulk d + uptoBulkAll r
def uptoBulkEntries {H : Type} : List (Lit × DataW H) → Nat
  | [] => 0
  | x :: r => uptoBulkEntry x + uptoBulkEntries r
def uptoBulkEntry {H : Type} : Lit × DataW H → Nat
  | (.string bytes, d) => bytes.length + uptoBulk d + 1
  | (_, d) => uptoBulk d + 1
 end
def uptoSmall : (H : Type) → List (DataW H) → Bool := fun _ ds => decide (uptoBulkAll ds ≤ 1048576)
def OpenSpec.upto (s : _root_.Go.ChangeSpec) : _root_.Go.OpenSpec := { _root_.Go.OpenSpec.ofChange s with cond := some uptoSmall }

/-- 'doorwardlaw15.LexRemarks', WHERE WHAT IT READS IS OF BULK AT MOST 1048576: true; the input reads as it did. -/
def lexRemarksUptoRow : OpenClaim := { program := "ytcgbcbdgjhnlaaa", sum := "4d7e4bbc675fb5b2dc8aac44938f159ced4395424c1929893fef7d42d93eb9a9", func := "doorward/doorwardlaw15.LexRemarks", spec := "lexRemarks", inPlace := ["internal/bytealg.IndexByteString"], unfollowed := true, recurses := true, plainKeys := false, apart := false, narrowed := true }
def LexRemarksUptoSaid : Prop := lexRemarksUptoRow.holds Try.pinned (OpenSpec.upto lexRemarksSpec)

/-- 'doorwardlaw15.LexBig', WHERE WHAT IT READS IS OF BULK AT MOST 1048576: true; the input reads as it did. -/
def lexBigUptoRow : OpenClaim := { program := "ytcgbcbdgjhnlaaa", sum := "4d7e4bbc675fb5b2dc8aac44938f159ced4395424c1929893fef7d42d93eb9a9", func := "doorward/doorwardlaw15.LexBig", spec := "lexBig", inPlace := ["internal/bytealg.IndexByteString"], unfollowed := true, recurses := true, plainKeys := false, apart := false, narrowed := true }
def LexBigUptoSaid : Prop := lexBigUptoRow.holds Try.pinned (OpenSpec.upto lexBigSpec)

/-- 'doorwardlaw15.LexReads', WHERE WHAT IT READS IS OF BULK AT MOST 1048576: true; the input reads as it did. -/
def lexReadsUptoRow : OpenClaim := { program := "ytcgbcbdgjhnlaaa", sum := "4d7e4bbc675fb5b2dc8aac44938f159ced4395424c1929893fef7d42d93eb9a9", func := "doorward/doorwardlaw15.LexReads", spec := "lexReads", inPlace := ["internal/bytealg.IndexByteString", "internal/abi.NoEscape", "internal/bytealg.MakeNoZero"], unfollowed := true, recurses := true, plainKeys := false, apart := false, narrowed := true }
def LexReadsUptoSaid : Prop := lexReadsUptoRow.holds Try.pinned (OpenSpec.upto lexReadsSpec)

/-- 'doorwardlaw15.LexBack', WHERE WHAT IT READS IS OF BULK AT MOST 1048576: true; the input reads as it did. -/
def lexBackUptoRow : OpenClaim := { program := "ytcgbcbdgjhnlaaa", sum := "4d7e4bbc675fb5b2dc8aac44938f159ced4395424c1929893fef7d42d93eb9a9", func := "doorward/doorwardlaw15.LexBack", spec := "lexBack", inPlace := ["internal/bytealg.IndexByteString", "internal/abi.NoEscape", "internal/bytealg.MakeNoZero"], unfollowed := true, recurses := true, plainKeys := false, apart := false, narrowed := true }
def LexBackUptoSaid : Prop := lexBackUptoRow.holds Try.pinned (OpenSpec.upto lexBackSpec)

/-- 'doorwardlaw11.TupleParses', WHERE WHAT IT READS IS OF BULK AT MOST 1048576: true; the input reads as it did. -/
def tupleParsesUptoRow : OpenClaim := { program := "ytcgbcbdgjhnlaaa", sum := "4d7e4bbc675fb5b2dc8aac44938f159ced4395424c1929893fef7d42d93eb9a9", func := "doorward/doorwardlaw11.TupleParses", spec := "tupleParses", inPlace := ["internal/bytealg.IndexByteString", "internal/bytealg.IndexString"], unfollowed := true, recurses := true, named := ["internal/bytealg.MaxLen"], plainKeys := false, apart := false, narrowed := true }
def TupleParsesUptoSaid : Prop := tupleParsesUptoRow.holds Try.pinned (OpenSpec.upto tupleParsesSpec)

/-- 'doorwardlaw11.TupleNames', WHERE WHAT IT READS IS OF BULK AT MOST 1048576: true; the input reads as it did. -/
def tupleNamesUptoRow : OpenClaim := { program := "ytcgbcbdgjhnlaaa", sum := "4d7e4bbc675fb5b2dc8aac44938f159ced4395424c1929893fef7d42d93eb9a9", func := "doorward/doorwardlaw11.TupleNames", spec := "tupleNames", inPlace := ["internal/bytealg.IndexByteString", "internal/bytealg.IndexString"], unfollowed := true, recurses := true, named := ["internal/bytealg.MaxLen"], plainKeys := false, apart := false, narrowed := true }
def TupleNamesUptoSaid : Prop := tupleNamesUptoRow.holds Try.pinned (OpenSpec.upto tupleNamesSpec)

/-- 'doorwardlaw11.TupleBack', WHERE WHAT IT READS IS OF BULK AT MOST 1048576: true; the input reads as it did. -/
def tupleBackUptoRow : OpenClaim := { program := "ytcgbcbdgjhnlaaa", sum := "4d7e4bbc675fb5b2dc8aac44938f159ced4395424c1929893fef7d42d93eb9a9", func := "doorward/doorwardlaw11.TupleBack", spec := "tupleBack", inPlace := ["internal/bytealg.IndexByteString", "internal/bytealg.IndexString"], unfollowed := true, recurses := true, named := ["internal/bytealg.MaxLen"], plainKeys := false, apart := false, narrowed := true }
def TupleBackUptoSaid : Prop := tupleBackUptoRow.holds Try.pinned (OpenSpec.upto tupleBackSpec)

/-- 'doorwardlaw11.TupleTexts', WHERE WHAT IT READS IS OF BULK AT MOST 1048576: true; the input reads as it did. -/
def tupleTextsUptoRow : OpenClaim := { program := "ytcgbcbdgjhnlaaa", sum := "4d7e4bbc675fb5b2dc8aac44938f159ced4395424c1929893fef7d42d93eb9a9", func := "doorward/doorwardlaw11.TupleTexts", spec := "tupleTexts", inPlace := ["internal/bytealg.IndexByteString", "internal/bytealg.IndexString"], unfollowed := true, recurses := true, named := ["internal/bytealg.MaxLen"], plainKeys := false, apart := false, narrowed := true }
def TupleTextsUptoSaid : Prop := tupleTextsUptoRow.holds Try.pinned (OpenSpec.upto tupleTextsSpec)

/-- 'doorwardlaw16.RuleParses', WHERE WHAT IT READS IS OF BULK AT MOST 1048576: true; the input reads as it did. -/
def ruleParsesUptoRow : OpenClaim := { program := "ytcgbcbdgjhnlaaa", sum := "4d7e4bbc675fb5b2dc8aac44938f159ced4395424c1929893fef7d42d93eb9a9", func := "doorward/doorwardlaw16.RuleParses", spec := "ruleParses", inPlace := ["internal/bytealg.IndexByteString", "internal/bytealg.IndexString"], unfollowed := true, recurses := true, named := ["internal/bytealg.MaxLen"], plainKeys := false, apart := false, narrowed := true }
def RuleParsesUptoSaid : Prop := ruleParsesUptoRow.holds Try.pinned (OpenSpec.upto ruleParsesSpec)

/-- 'doorwardlaw16.RuleDeep', WHERE WHAT IT READS IS OF BULK AT MOST 1048576: true; the input reads as it did. -/
def ruleDeepUptoRow : OpenClaim := { program := "ytcgbcbdgjhnlaaa", sum := "4d7e4bbc675fb5b2dc8aac44938f159ced4395424c1929893fef7d42d93eb9a9", func := "doorward/doorwardlaw16.RuleDeep", spec := "ruleDeep", inPlace := ["internal/bytealg.IndexByteString", "internal/bytealg.IndexString"], unfollowed := true, recurses := true, named := ["internal/bytealg.MaxLen"], plainKeys := false, apart := false, narrowed := true }
def RuleDeepUptoSaid : Prop := ruleDeepUptoRow.holds Try.pinned (OpenSpec.upto ruleDeepSpec)

/-- 'doorwardlaw16.RuleMany', WHERE WHAT IT READS IS OF BULK AT MOST 1048576: true; the input reads as it did. -/
def ruleManyUptoRow : OpenClaim := { program := "ytcgbcbdgjhnlaaa", sum := "4d7e4bbc675fb5b2dc8aac44938f159ced4395424c1929893fef7d42d93eb9a9", func := "doorward/doorwardlaw16.RuleMany", spec := "ruleMany", inPlace := ["internal/bytealg.IndexByteString", "internal/bytealg.IndexString"], unfollowed := true, recurses := true, named := ["internal/bytealg.MaxLen"], plainKeys := false, apart := false, narrowed := true }
def RuleManyUptoSaid : Prop := ruleManyUptoRow.holds Try.pinned (OpenSpec.upto ruleManySpec)

/-- 'doorwardlaw17.ShowExprs', WHERE WHAT IT READS IS OF BULK AT MOST 1048576: true; the input reads as it did. -/
def showExprsUptoRow : OpenClaim := { program := "ytcgbcbdgjhnlaaa", sum := "4d7e4bbc675fb5b2dc8aac44938f159ced4395424c1929893fef7d42d93eb9a9", func := "doorward/doorwardlaw17.ShowExprs", spec := "showExprs", inPlace := ["internal/bytealg.IndexByteString", "internal/bytealg.IndexString"], unfollowed := true, recurses := true, named := ["internal/bytealg.MaxLen"], plainKeys := false, apart := false, narrowed := true }
def ShowExprsUptoSaid : Prop := showExprsUptoRow.holds Try.pinned (OpenSpec.upto showExprsSpec)

/-- 'doorwardlaw17.ShowBack', WHERE WHAT IT READS IS OF BULK AT MOST 1048576: true; the input reads as it did. -/
def showBackUptoRow : OpenClaim := { program := "ytcgbcbdgjhnlaaa", sum := "4d7e4bbc675fb5b2dc8aac44938f159ced4395424c1929893fef7d42d93eb9a9", func := "doorward/doorwardlaw17.ShowBack", spec := "showBack", inPlace := ["internal/abi.NoEscape", "internal/bytealg.IndexByteString", "internal/bytealg.IndexString"], unfollowed := true, recurses := true, named := ["internal/bytealg.MaxLen"], plainKeys := false, apart := false, narrowed := true }
def ShowBackUptoSaid : Prop := showBackUptoRow.holds Try.pinned (OpenSpec.upto showBackSpec)

/-- 'doorwardlaw18.StrataLeast', WHERE WHAT IT READS IS OF BULK AT MOST 1048576: true; the input reads as it did. -/
def strataLeastUptoRow : OpenClaim := { program := "ytcgbcbdgjhnlaaa", sum := "4d7e4bbc675fb5b2dc8aac44938f159ced4395424c1929893fef7d42d93eb9a9", func := "doorward/doorwardlaw18.StrataLeast", spec := "strataLeast", inPlace := ["internal/bytealg.IndexByteString", "internal/bytealg.IndexString"], unfollowed := true, recurses := true, named := ["internal/bytealg.MaxLen"], plainKeys := false, apart := false, narrowed := true }
def StrataLeastUptoSaid : Prop := strataLeastUptoRow.holds Try.pinned (OpenSpec.upto strataLeastSpec)

/-- 'doorwardlaw18.StrataChain', WHERE WHAT IT READS IS OF BULK AT MOST 1048576: true; the input reads as it did. -/
def strataChainUptoRow : OpenClaim := { program := "ytcgbcbdgjhnlaaa", sum := "4d7e4bbc675fb5b2dc8aac44938f159ced4395424c1929893fef7d42d93eb9a9", func := "doorward/doorwardlaw18.StrataChain", spec := "strataChain", inPlace := ["internal/bytealg.IndexByteString", "internal/bytealg.IndexString"], unfollowed := true, recurses := true, named := ["internal/bytealg.MaxLen"], plainKeys := false, apart := false, narrowed := true }
def StrataChainUptoSaid : Prop := strataChainUptoRow.holds Try.pinned (OpenSpec.upto strataChainSpec)

/-- 'doorwardlaw18.StrataNumbers', WHERE WHAT IT READS IS OF BULK AT MOST 1048576: true; the input reads as it did. -/
def strataNumbersUptoRow : OpenClaim := { program := "ytcgbcbdgjhnlaaa", sum := "4d7e4bbc675fb5b2dc8aac44938f159ced4395424c1929893fef7d42d93eb9a9", func := "doorward/doorwardlaw18.StrataNumbers", spec := "strataNumbers", inPlace := ["internal/bytealg.IndexByteString", "internal/bytealg.IndexString"], unfollowed := true, recurses := true, named := ["internal/bytealg.MaxLen"], plainKeys := false, apart := false, narrowed := true }
def StrataNumbersUptoSaid : Prop := strataNumbersUptoRow.holds Try.pinned (OpenSpec.upto strataNumbersSpec)

/-- 'doorwardlaw19.SpaceKept', WHERE WHAT IT READS IS OF BULK AT MOST 1048576: true; the input reads as it did. -/
def spaceKeptUptoRow : OpenClaim := { program := "ytcgbcbdgjhnlaaa", sum := "4d7e4bbc675fb5b2dc8aac44938f159ced4395424c1929893fef7d42d93eb9a9", func := "doorward/doorwardlaw19.SpaceKept", spec := "spaceKept", inPlace := ["internal/bytealg.IndexByteString", "internal/bytealg.IndexString"], unfollowed := true, recurses := true, named := ["internal/bytealg.MaxLen"], plainKeys := false, apart := false, narrowed := true }
def SpaceKeptUptoSaid : Prop := spaceKeptUptoRow.holds Try.pinned (OpenSpec.upto spaceKeptSpec)

/-- 'doorwardlaw19.SpaceNobody', WHERE WHAT IT READS IS OF BULK AT MOST 1048576: true; the input reads as it did. -/
def spaceNobodyUptoRow : OpenClaim := { program := "ytcgbcbdgjhnlaaa", sum := "4d7e4bbc675fb5b2dc8aac44938f159ced4395424c1929893fef7d42d93eb9a9", func := "doorward/doorwardlaw19.SpaceNobody", spec := "spaceNobody", inPlace := ["internal/bytealg.IndexByteString", "internal/bytealg.IndexString"], unfollowed := true, recurses := true, named := ["internal/bytealg.MaxLen"], plainKeys := false, apart := false, narrowed := true }
def SpaceNobodyUptoSaid : Prop := spaceNobodyUptoRow.holds Try.pinned (OpenSpec.upto spaceNobodySpec)

end Rows
end Go.Proofs.Ytcgbcbdgjhnlaaa
