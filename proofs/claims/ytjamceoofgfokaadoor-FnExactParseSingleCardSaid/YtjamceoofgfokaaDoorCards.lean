/-
  DERIVED. GIVEN WITH THE SEED: THE CARDS: each row of YtjamceoofgfokaaDoorRows.lean that lists a variable, with what it lists TIED to the program's text (the seventh form; the later family's looks); each row that meets fmt, with fmt's text TOLD by the authors' own Lean function (tested against real Go, not proved from fmt's source: count such statements apart). THE CARD IS WHAT COUNTS. Prove the row's statement (the work); the ties are given (YtjamceoofgfokaaDoorTie.lean); close each card by the builder's one call (the guide's Derived/Test/ToyasCard.lean, 'card_holds'). Laid BY PROGRAM, IN A SANDBOX (cutbox-door.mjs). By AI agents, Wed Nov 11 2026. No macro, syntax, notation, axiom, sorry.
-/
import Derived.Test.YtjamceoofgfokaaDoorRows
import GoSem.ClaimSeven
namespace Go.Proofs.YtjamceoofgfokaaDoor
namespace Rows

/-- THE TIED CARD OF 'laws.FnExactFormatDouble'. -/
def fnExactFormatDoubleCard : Claim7 := { stood := { row := fnExactFormatDoubleRow, standIns := [], harness := (true, "74aacf4ddbebfefc1ae2e34e1b411c10a37d13f8759245af5a74e261ccf996b7"), looks := true }, kinds := [], alts := [], laidByText := true, laidKinds := [.data, .data, .data], laidTests := true, laidLooks := .later }
def FnExactFormatDoubleCardSaid : Prop := Claim7.holds Tryd.pinned (.plain (OpenSpec.ofChange fnExactFormatDoubleSpec)) fnExactFormatDoubleCard

/-- THE TIED CARD OF 'laws.FnExactFormatSingle'. -/
def fnExactFormatSingleCard : Claim7 := { stood := { row := fnExactFormatSingleRow, standIns := [], harness := (true, "74aacf4ddbebfefc1ae2e34e1b411c10a37d13f8759245af5a74e261ccf996b7"), looks := true }, kinds := [], alts := [], laidByText := true, laidKinds := [.data, .data, .data], laidTests := true, laidLooks := .later }
def FnExactFormatSingleCardSaid : Prop := Claim7.holds Tryd.pinned (.plain (OpenSpec.ofChange fnExactFormatSingleSpec)) fnExactFormatSingleCard

/-- THE TIED CARD OF 'laws.FnExactParseDouble'. -/
def fnExactParseDoubleCard : Claim7 := { stood := { row := fnExactParseDoubleRow, standIns := [], harness := (true, "74aacf4ddbebfefc1ae2e34e1b411c10a37d13f8759245af5a74e261ccf996b7"), looks := true }, kinds := [], alts := [], laidByText := true, laidKinds := [.data, .data, .data, .sentinel, .sentinel], laidTests := true, laidLooks := .later }
def FnExactParseDoubleCardSaid : Prop := Claim7.holds Tryd.pinned (.plain (OpenSpec.ofChange fnExactParseDoubleSpec)) fnExactParseDoubleCard

/-- THE TIED CARD OF 'laws.FnExactParseSingle'. -/
def fnExactParseSingleCard : Claim7 := { stood := { row := fnExactParseSingleRow, standIns := [], harness := (true, "74aacf4ddbebfefc1ae2e34e1b411c10a37d13f8759245af5a74e261ccf996b7"), looks := true }, kinds := [], alts := [], laidByText := true, laidKinds := [.data, .data, .data, .sentinel, .sentinel], laidTests := true, laidLooks := .later }
def FnExactParseSingleCardSaid : Prop := Claim7.holds Tryd.pinned (.plain (OpenSpec.ofChange fnExactParseSingleSpec)) fnExactParseSingleCard

/-- THE SECOND FORM's CARD OF 'laws.FnExactFormatDouble'. -/
def fnExactFormatDoubleUptoCard : Claim7 := { stood := { row := fnExactFormatDoubleUptoRow, standIns := [], harness := (true, "74aacf4ddbebfefc1ae2e34e1b411c10a37d13f8759245af5a74e261ccf996b7"), looks := true }, kinds := [], alts := [], laidByText := true, laidKinds := [.data, .data, .data], laidTests := true, laidLooks := .later }
def FnExactFormatDoubleUptoCardSaid : Prop := Claim7.holds Tryd.pinned (.plain (OpenSpec.upto fnExactFormatDoubleSpec)) fnExactFormatDoubleUptoCard

/-- THE SECOND FORM's CARD OF 'laws.FnExactFormatSingle'. -/
def fnExactFormatSingleUptoCard : Claim7 := { stood := { row := fnExactFormatSingleUptoRow, standIns := [], harness := (true, "74aacf4ddbebfefc1ae2e34e1b411c10a37d13f8759245af5a74e261ccf996b7"), looks := true }, kinds := [], alts := [], laidByText := true, laidKinds := [.data, .data, .data], laidTests := true, laidLooks := .later }
def FnExactFormatSingleUptoCardSaid : Prop := Claim7.holds Tryd.pinned (.plain (OpenSpec.upto fnExactFormatSingleSpec)) fnExactFormatSingleUptoCard

/-- THE SECOND FORM's CARD OF 'laws.FnExactParseDouble'. -/
def fnExactParseDoubleUptoCard : Claim7 := { stood := { row := fnExactParseDoubleUptoRow, standIns := [], harness := (true, "74aacf4ddbebfefc1ae2e34e1b411c10a37d13f8759245af5a74e261ccf996b7"), looks := true }, kinds := [], alts := [], laidByText := true, laidKinds := [.data, .data, .data, .sentinel, .sentinel], laidTests := true, laidLooks := .later }
def FnExactParseDoubleUptoCardSaid : Prop := Claim7.holds Tryd.pinned (.plain (OpenSpec.upto fnExactParseDoubleSpec)) fnExactParseDoubleUptoCard

/-- THE SECOND FORM's CARD OF 'laws.FnExactParseSingle'. -/
def fnExactParseSingleUptoCard : Claim7 := { stood := { row := fnExactParseSingleUptoRow, standIns := [], harness := (true, "74aacf4ddbebfefc1ae2e34e1b411c10a37d13f8759245af5a74e261ccf996b7"), looks := true }, kinds := [], alts := [], laidByText := true, laidKinds := [.data, .data, .data, .sentinel, .sentinel], laidTests := true, laidLooks := .later }
def FnExactParseSingleUptoCardSaid : Prop := Claim7.holds Tryd.pinned (.plain (OpenSpec.upto fnExactParseSingleSpec)) fnExactParseSingleUptoCard
end Rows
end Go.Proofs.YtjamceoofgfokaaDoor
