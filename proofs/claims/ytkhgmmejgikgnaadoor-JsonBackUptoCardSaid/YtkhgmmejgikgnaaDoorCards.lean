/-
  DERIVED. GIVEN WITH THE SEED: THE CARDS: each row of YtkhgmmejgikgnaaDoorRows.lean that lists a variable, with what it lists TIED to the program's text (the seventh form; the later family's looks); each row that meets fmt, with fmt's text TOLD by the authors' own Lean function (tested against real Go, not proved from fmt's source: count such statements apart). THE CARD IS WHAT COUNTS. Prove the row's statement (the work); the ties are given (YtkhgmmejgikgnaaDoorTie.lean); close each card by the builder's one call (the guide's Derived/Test/ToyasCard.lean, 'card_holds'). Laid BY PROGRAM, IN A SANDBOX (cutbox-door.mjs). By AI agents, Wed Nov 11 2026. No macro, syntax, notation, axiom, sorry.
-/
import Derived.Test.YtkhgmmejgikgnaaDoorRows
import GoSem.ClaimSeven
namespace Go.Proofs.YtkhgmmejgikgnaaDoor
namespace Rows

/-- THE TIED CARD OF 'doorwardlaw05.QueryParses'. -/
def queryParsesCard : Claim7 := { stood := { row := queryParsesRow, standIns := [], harness := (true, "4a00e78bf3217cc84d8c408abc5e5dc03c325643bb785ca33287de4ee2147a28"), looks := true }, kinds := [], alts := [], laidByText := true, laidKinds := [.data, .pinned], laidTests := true, laidLooks := .later }
def QueryParsesCardSaid : Prop := Claim7.holds Tryd.pinned (.plain (OpenSpec.ofChange queryParsesSpec)) queryParsesCard

/-- THE TIED CARD OF 'doorwardlaw33.HttpLimits'. -/
def httpLimitsCard : Claim7 := { stood := { row := httpLimitsRow, standIns := [], harness := (true, "4a00e78bf3217cc84d8c408abc5e5dc03c325643bb785ca33287de4ee2147a28"), looks := true }, kinds := [], alts := [], laidByText := true, laidKinds := [.data, .data, .data, .data, .sentinel, .sentinel, .pinned], laidTests := true, laidLooks := .later }
def HttpLimitsCardSaid : Prop := Claim7.holds Tryd.pinned (.plain (OpenSpec.ofChange httpLimitsSpec)) httpLimitsCard

/-- THE TIED CARD OF 'doorwardlaw05.QueryMost'. -/
def queryMostCard : Claim7 := { stood := { row := queryMostRow, standIns := [], harness := (true, "4a00e78bf3217cc84d8c408abc5e5dc03c325643bb785ca33287de4ee2147a28"), looks := true }, kinds := [], alts := [], laidByText := true, laidKinds := [.data, .pinned], laidTests := true, laidLooks := .later }
def QueryMostCardSaid : Prop := Claim7.holds Tryd.pinned (.plain (OpenSpec.ofChange queryMostSpec)) queryMostCard

/-- THE TIED CARD OF 'doorwardlaw05.QueryEscapes'. -/
def queryEscapesCard : Claim7 := { stood := { row := queryEscapesRow, standIns := [], harness := (true, "4a00e78bf3217cc84d8c408abc5e5dc03c325643bb785ca33287de4ee2147a28"), looks := true }, kinds := [], alts := [], laidByText := true, laidKinds := [.data, .pinned], laidTests := true, laidLooks := .later }
def QueryEscapesCardSaid : Prop := Claim7.holds Tryd.pinned (.plain (OpenSpec.ofChange queryEscapesSpec)) queryEscapesCard

/-- THE TIED CARD OF 'doorwardlaw35.ReplyRenders'. -/
def replyRendersCard : Claim7 := { stood := { row := replyRendersRow, standIns := [], harness := (true, "4a00e78bf3217cc84d8c408abc5e5dc03c325643bb785ca33287de4ee2147a28"), looks := true }, kinds := [], alts := [], laidByText := true, laidKinds := [.data, .data, .data], laidTests := true, laidLooks := .later }
def ReplyRendersCardSaid : Prop := Claim7.holds Tryd.pinned (.plain (OpenSpec.ofChange replyRendersSpec)) replyRendersCard

/-- THE TIED CARD OF 'doorwardlaw05.QueryBack'. -/
def queryBackCard : Claim7 := { stood := { row := queryBackRow, standIns := [], harness := (true, "4a00e78bf3217cc84d8c408abc5e5dc03c325643bb785ca33287de4ee2147a28"), looks := true }, kinds := [], alts := [], laidByText := true, laidKinds := [.data, .pinned], laidTests := true, laidLooks := .later }
def QueryBackCardSaid : Prop := Claim7.holds Tryd.pinned (.plain (OpenSpec.ofChange queryBackSpec)) queryBackCard

/-- THE TIED CARD OF 'doorwardlaw05.QueryPrints'. -/
def queryPrintsCard : Claim7 := { stood := { row := queryPrintsRow, standIns := [], harness := (true, "4a00e78bf3217cc84d8c408abc5e5dc03c325643bb785ca33287de4ee2147a28"), looks := true }, kinds := [], alts := [], laidByText := true, laidKinds := [.data, .pinned], laidTests := true, laidLooks := .later }
def QueryPrintsCardSaid : Prop := Claim7.holds Tryd.pinned (.plain (OpenSpec.ofChange queryPrintsSpec)) queryPrintsCard

/-- THE TIED CARD OF 'doorwardlaw35.ReplyTold'. -/
def replyToldCard : Claim7 := { stood := { row := replyToldRow, standIns := [], harness := (true, "4a00e78bf3217cc84d8c408abc5e5dc03c325643bb785ca33287de4ee2147a28"), looks := true }, kinds := [], alts := [], laidByText := true, laidKinds := [.data, .data, .data, .data, .pinned], laidTests := true, laidLooks := .later }
def ReplyToldCardSaid : Prop := Claim7.holds Tryd.pinned (.plain (OpenSpec.ofChange replyToldSpec)) replyToldCard

/-- THE TIED CARD OF 'doorwardlaw34.RouteBack'. -/
def routeBackCard : Claim7 := { stood := { row := routeBackRow, standIns := [], harness := (true, "4a00e78bf3217cc84d8c408abc5e5dc03c325643bb785ca33287de4ee2147a28"), looks := true }, kinds := [], alts := [], laidByText := true, laidKinds := [.data, .pinned], laidTests := true, laidLooks := .later }
def RouteBackCardSaid : Prop := Claim7.holds Tryd.pinned (.plain (OpenSpec.ofChange routeBackSpec)) routeBackCard

/-- THE TIED CARD OF 'doorwardlaw06.JsonDeep'. -/
def jsonDeepCard : Claim7 := { stood := { row := jsonDeepRow, standIns := [], harness := (true, "4a00e78bf3217cc84d8c408abc5e5dc03c325643bb785ca33287de4ee2147a28"), looks := true }, kinds := [], alts := [], laidByText := true, laidKinds := [.data, .data, .data, .data, .sentinel, .sentinel, .pinned], laidTests := true, laidLooks := .later }
def JsonDeepCardSaid : Prop := Claim7.holds Tryd.pinned (.plain (OpenSpec.ofChange jsonDeepSpec)) jsonDeepCard

/-- THE TIED CARD OF 'doorwardlaw06.JsonBack'. -/
def jsonBackCard : Claim7 := { stood := { row := jsonBackRow, standIns := [], harness := (true, "4a00e78bf3217cc84d8c408abc5e5dc03c325643bb785ca33287de4ee2147a28"), looks := true }, kinds := [], alts := [], laidByText := true, laidKinds := [.data, .data, .data, .data, .sentinel, .sentinel, .pinned], laidTests := true, laidLooks := .later }
def JsonBackCardSaid : Prop := Claim7.holds Tryd.pinned (.plain (OpenSpec.ofChange jsonBackSpec)) jsonBackCard

/-- THE SECOND FORM's CARD OF 'doorwardlaw05.QueryParses'. -/
def queryParsesUptoCard : Claim7 := { stood := { row := queryParsesUptoRow, standIns := [], harness := (true, "4a00e78bf3217cc84d8c408abc5e5dc03c325643bb785ca33287de4ee2147a28"), looks := true }, kinds := [], alts := [], laidByText := true, laidKinds := [.data, .pinned], laidTests := true, laidLooks := .later }
def QueryParsesUptoCardSaid : Prop := Claim7.holds Tryd.pinned (.plain (OpenSpec.upto queryParsesSpec)) queryParsesUptoCard

/-- THE SECOND FORM's CARD OF 'doorwardlaw33.HttpLimits'. -/
def httpLimitsUptoCard : Claim7 := { stood := { row := httpLimitsUptoRow, standIns := [], harness := (true, "4a00e78bf3217cc84d8c408abc5e5dc03c325643bb785ca33287de4ee2147a28"), looks := true }, kinds := [], alts := [], laidByText := true, laidKinds := [.data, .data, .data, .data, .sentinel, .sentinel, .pinned], laidTests := true, laidLooks := .later }
def HttpLimitsUptoCardSaid : Prop := Claim7.holds Tryd.pinned (.plain (OpenSpec.upto httpLimitsSpec)) httpLimitsUptoCard

/-- THE SECOND FORM's CARD OF 'doorwardlaw05.QueryMost'. -/
def queryMostUptoCard : Claim7 := { stood := { row := queryMostUptoRow, standIns := [], harness := (true, "4a00e78bf3217cc84d8c408abc5e5dc03c325643bb785ca33287de4ee2147a28"), looks := true }, kinds := [], alts := [], laidByText := true, laidKinds := [.data, .pinned], laidTests := true, laidLooks := .later }
def QueryMostUptoCardSaid : Prop := Claim7.holds Tryd.pinned (.plain (OpenSpec.upto queryMostSpec)) queryMostUptoCard

/-- THE SECOND FORM's CARD OF 'doorwardlaw05.QueryEscapes'. -/
def queryEscapesUptoCard : Claim7 := { stood := { row := queryEscapesUptoRow, standIns := [], harness := (true, "4a00e78bf3217cc84d8c408abc5e5dc03c325643bb785ca33287de4ee2147a28"), looks := true }, kinds := [], alts := [], laidByText := true, laidKinds := [.data, .pinned], laidTests := true, laidLooks := .later }
def QueryEscapesUptoCardSaid : Prop := Claim7.holds Tryd.pinned (.plain (OpenSpec.upto queryEscapesSpec)) queryEscapesUptoCard

/-- THE SECOND FORM's CARD OF 'doorwardlaw35.ReplyRenders'. -/
def replyRendersUptoCard : Claim7 := { stood := { row := replyRendersUptoRow, standIns := [], harness := (true, "4a00e78bf3217cc84d8c408abc5e5dc03c325643bb785ca33287de4ee2147a28"), looks := true }, kinds := [], alts := [], laidByText := true, laidKinds := [.data, .data, .data], laidTests := true, laidLooks := .later }
def ReplyRendersUptoCardSaid : Prop := Claim7.holds Tryd.pinned (.plain (OpenSpec.upto replyRendersSpec)) replyRendersUptoCard

/-- THE SECOND FORM's CARD OF 'doorwardlaw05.QueryBack'. -/
def queryBackUptoCard : Claim7 := { stood := { row := queryBackUptoRow, standIns := [], harness := (true, "4a00e78bf3217cc84d8c408abc5e5dc03c325643bb785ca33287de4ee2147a28"), looks := true }, kinds := [], alts := [], laidByText := true, laidKinds := [.data, .pinned], laidTests := true, laidLooks := .later }
def QueryBackUptoCardSaid : Prop := Claim7.holds Tryd.pinned (.plain (OpenSpec.upto queryBackSpec)) queryBackUptoCard

/-- THE SECOND FORM's CARD OF 'doorwardlaw05.QueryPrints'. -/
def queryPrintsUptoCard : Claim7 := { stood := { row := queryPrintsUptoRow, standIns := [], harness := (true, "4a00e78bf3217cc84d8c408abc5e5dc03c325643bb785ca33287de4ee2147a28"), looks := true }, kinds := [], alts := [], laidByText := true, laidKinds := [.data, .pinned], laidTests := true, laidLooks := .later }
def QueryPrintsUptoCardSaid : Prop := Claim7.holds Tryd.pinned (.plain (OpenSpec.upto queryPrintsSpec)) queryPrintsUptoCard

/-- THE SECOND FORM's CARD OF 'doorwardlaw35.ReplyTold'. -/
def replyToldUptoCard : Claim7 := { stood := { row := replyToldUptoRow, standIns := [], harness := (true, "4a00e78bf3217cc84d8c408abc5e5dc03c325643bb785ca33287de4ee2147a28"), looks := true }, kinds := [], alts := [], laidByText := true, laidKinds := [.data, .data, .data, .data, .pinned], laidTests := true, laidLooks := .later }
def ReplyToldUptoCardSaid : Prop := Claim7.holds Tryd.pinned (.plain (OpenSpec.upto replyToldSpec)) replyToldUptoCard

/-- THE SECOND FORM's CARD OF 'doorwardlaw34.RouteBack'. -/
def routeBackUptoCard : Claim7 := { stood := { row := routeBackUptoRow, standIns := [], harness := (true, "4a00e78bf3217cc84d8c408abc5e5dc03c325643bb785ca33287de4ee2147a28"), looks := true }, kinds := [], alts := [], laidByText := true, laidKinds := [.data, .pinned], laidTests := true, laidLooks := .later }
def RouteBackUptoCardSaid : Prop := Claim7.holds Tryd.pinned (.plain (OpenSpec.upto routeBackSpec)) routeBackUptoCard

/-- THE SECOND FORM's CARD OF 'doorwardlaw06.JsonDeep'. -/
def jsonDeepUptoCard : Claim7 := { stood := { row := jsonDeepUptoRow, standIns := [], harness := (true, "4a00e78bf3217cc84d8c408abc5e5dc03c325643bb785ca33287de4ee2147a28"), looks := true }, kinds := [], alts := [], laidByText := true, laidKinds := [.data, .data, .data, .data, .sentinel, .sentinel, .pinned], laidTests := true, laidLooks := .later }
def JsonDeepUptoCardSaid : Prop := Claim7.holds Tryd.pinned (.plain (OpenSpec.upto jsonDeepSpec)) jsonDeepUptoCard

/-- THE SECOND FORM's CARD OF 'doorwardlaw06.JsonBack'. -/
def jsonBackUptoCard : Claim7 := { stood := { row := jsonBackUptoRow, standIns := [], harness := (true, "4a00e78bf3217cc84d8c408abc5e5dc03c325643bb785ca33287de4ee2147a28"), looks := true }, kinds := [], alts := [], laidByText := true, laidKinds := [.data, .data, .data, .data, .sentinel, .sentinel, .pinned], laidTests := true, laidLooks := .later }
def JsonBackUptoCardSaid : Prop := Claim7.holds Tryd.pinned (.plain (OpenSpec.upto jsonBackSpec)) jsonBackUptoCard
end Rows
end Go.Proofs.YtkhgmmejgikgnaaDoor
