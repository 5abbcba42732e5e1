/-
  DERIVED. GIVEN WITH THE SEED: THE CARDS: each row of YtcognpibphpadaaGreatDoorRows.lean that lists a variable, with what it lists TIED to the program's text (the seventh form; the later family's looks); each row that meets fmt, with fmt's text TOLD by the authors' own Lean function (tested against real Go, not proved from fmt's source: count such statements apart). THE CARD IS WHAT COUNTS. Prove the row's statement (the work); the ties are given (YtcognpibphpadaaGreatDoorTie.lean); close each card by the builder's one call (the guide's Derived/Test/ToyasCard.lean, 'card_holds'). Laid BY PROGRAM, IN A SANDBOX (cutbox-door.mjs). By AI agents, Wed Nov 11 2026. No macro, syntax, notation, axiom, sorry.
-/
import Derived.Test.YtcognpibphpadaaGreatDoorRows
import GoSem.ClaimSeven
namespace Go.Proofs.YtcognpibphpadaaGreatDoor
namespace Rows

/-- THE TIED CARD OF 'chinoiserielaw05.HttpFrames'. -/
def httpFramesCard : Claim7 := { stood := { row := httpFramesRow, standIns := [], harness := (true, "ed430ae29e3bda28f9466bb71b79f0c38dbfe91ddf07286a37be690ef078886e"), looks := true }, kinds := [], alts := [], laidByText := true, laidKinds := [.data, .data, .data, .data, .sentinel, .sentinel, .widerDeep, .pinned], laidTests := true, laidLooks := .later }
def HttpFramesCardSaid : Prop := Claim7.holds Tryz.pinned (.plain (OpenSpec.ofChange httpFramesSpec)) httpFramesCard

/-- THE TIED CARD OF 'chinoiserielaw19.WorkBlind'. -/
def workBlindCard : Claim7 := { stood := { row := workBlindRow, standIns := [], harness := (true, "ed430ae29e3bda28f9466bb71b79f0c38dbfe91ddf07286a37be690ef078886e"), looks := true }, kinds := [], alts := [], laidByText := true, laidKinds := [.data, .data, .data, .data, .sentinel, .sentinel, .pinned], laidTests := true, laidLooks := .later }
def WorkBlindCardSaid : Prop := Claim7.holds Tryz.pinned (.plain (OpenSpec.ofChange workBlindSpec)) workBlindCard

/-- THE TIED CARD OF 'chinoiserielaw19.WorkBack'. -/
def workBackCard : Claim7 := { stood := { row := workBackRow, standIns := [], harness := (true, "ed430ae29e3bda28f9466bb71b79f0c38dbfe91ddf07286a37be690ef078886e"), looks := true }, kinds := [], alts := [], laidByText := true, laidKinds := [.data, .data, .data, .data, .sentinel, .sentinel, .pinned], laidTests := true, laidLooks := .later }
def WorkBackCardSaid : Prop := Claim7.holds Tryz.pinned (.plain (OpenSpec.ofChange workBackSpec)) workBackCard

/-- THE TIED CARD OF 'chinoiserielaw19.WorkFirst'. -/
def workFirstCard : Claim7 := { stood := { row := workFirstRow, standIns := [], harness := (true, "ed430ae29e3bda28f9466bb71b79f0c38dbfe91ddf07286a37be690ef078886e"), looks := true }, kinds := [], alts := [], laidByText := true, laidKinds := [.data, .data, .data, .data, .sentinel, .sentinel, .pinned], laidTests := true, laidLooks := .later }
def WorkFirstCardSaid : Prop := Claim7.holds Tryz.pinned (.plain (OpenSpec.ofChange workFirstSpec)) workFirstCard

/-- THE TIED CARD OF 'chinoiserielaw05.HttpAgain'. -/
def httpAgainCard : Claim7 := { stood := { row := httpAgainRow, standIns := [], harness := (true, "ed430ae29e3bda28f9466bb71b79f0c38dbfe91ddf07286a37be690ef078886e"), looks := true }, kinds := [], alts := [], laidByText := true, laidKinds := [.data, .data, .data, .data, .sentinel, .sentinel, .sentinel, .widerDeep, .pinned], laidTests := true, laidLooks := .later }
def HttpAgainCardSaid : Prop := Claim7.holds Tryz.pinned (.plain (OpenSpec.ofChange httpAgainSpec)) httpAgainCard

/-- THE TIED CARD OF 'chinoiserielaw05.HttpOnce'. -/
def httpOnceCard : Claim7 := { stood := { row := httpOnceRow, standIns := [], harness := (true, "ed430ae29e3bda28f9466bb71b79f0c38dbfe91ddf07286a37be690ef078886e"), looks := true }, kinds := [], alts := [], laidByText := true, laidKinds := [.data, .data, .data, .data, .sentinel, .sentinel, .sentinel, .widerDeep, .pinned], laidTests := true, laidLooks := .later }
def HttpOnceCardSaid : Prop := Claim7.holds Tryz.pinned (.plain (OpenSpec.ofChange httpOnceSpec)) httpOnceCard

/-- THE TIED CARD OF 'chinoiserielaw05.HttpBack'. -/
def httpBackCard : Claim7 := { stood := { row := httpBackRow, standIns := [], harness := (true, "ed430ae29e3bda28f9466bb71b79f0c38dbfe91ddf07286a37be690ef078886e"), looks := true }, kinds := [], alts := [], laidByText := true, laidKinds := [.data, .data, .data, .data, .sentinel, .sentinel, .sentinel, .widerDeep, .pinned], laidTests := true, laidLooks := .later }
def HttpBackCardSaid : Prop := Claim7.holds Tryz.pinned (.plain (OpenSpec.ofChange httpBackSpec)) httpBackCard

/-- THE TIED CARD OF 'chinoiserielaw05.HttpWrites'. -/
def httpWritesCard : Claim7 := { stood := { row := httpWritesRow, standIns := [], harness := (true, "ed430ae29e3bda28f9466bb71b79f0c38dbfe91ddf07286a37be690ef078886e"), looks := true }, kinds := [], alts := [], laidByText := true, laidKinds := [.data, .data, .data, .data, .sentinel, .sentinel, .sentinel, .widerDeep, .pinned], laidTests := true, laidLooks := .later }
def HttpWritesCardSaid : Prop := Claim7.holds Tryz.pinned (.plain (OpenSpec.ofChange httpWritesSpec)) httpWritesCard

/-- THE SECOND FORM's CARD OF 'chinoiserielaw05.HttpFrames'. -/
def httpFramesUptoCard : Claim7 := { stood := { row := httpFramesUptoRow, standIns := [], harness := (true, "ed430ae29e3bda28f9466bb71b79f0c38dbfe91ddf07286a37be690ef078886e"), looks := true }, kinds := [], alts := [], laidByText := true, laidKinds := [.data, .data, .data, .data, .sentinel, .sentinel, .widerDeep, .pinned], laidTests := true, laidLooks := .later }
def HttpFramesUptoCardSaid : Prop := Claim7.holds Tryz.pinned (.plain (OpenSpec.upto httpFramesSpec)) httpFramesUptoCard

/-- THE SECOND FORM's CARD OF 'chinoiserielaw19.WorkBlind'. -/
def workBlindUptoCard : Claim7 := { stood := { row := workBlindUptoRow, standIns := [], harness := (true, "ed430ae29e3bda28f9466bb71b79f0c38dbfe91ddf07286a37be690ef078886e"), looks := true }, kinds := [], alts := [], laidByText := true, laidKinds := [.data, .data, .data, .data, .sentinel, .sentinel, .pinned], laidTests := true, laidLooks := .later }
def WorkBlindUptoCardSaid : Prop := Claim7.holds Tryz.pinned (.plain (OpenSpec.upto workBlindSpec)) workBlindUptoCard

/-- THE SECOND FORM's CARD OF 'chinoiserielaw19.WorkBack'. -/
def workBackUptoCard : Claim7 := { stood := { row := workBackUptoRow, standIns := [], harness := (true, "ed430ae29e3bda28f9466bb71b79f0c38dbfe91ddf07286a37be690ef078886e"), looks := true }, kinds := [], alts := [], laidByText := true, laidKinds := [.data, .data, .data, .data, .sentinel, .sentinel, .pinned], laidTests := true, laidLooks := .later }
def WorkBackUptoCardSaid : Prop := Claim7.holds Tryz.pinned (.plain (OpenSpec.upto workBackSpec)) workBackUptoCard

/-- THE SECOND FORM's CARD OF 'chinoiserielaw19.WorkFirst'. -/
def workFirstUptoCard : Claim7 := { stood := { row := workFirstUptoRow, standIns := [], harness := (true, "ed430ae29e3bda28f9466bb71b79f0c38dbfe91ddf07286a37be690ef078886e"), looks := true }, kinds := [], alts := [], laidByText := true, laidKinds := [.data, .data, .data, .data, .sentinel, .sentinel, .pinned], laidTests := true, laidLooks := .later }
def WorkFirstUptoCardSaid : Prop := Claim7.holds Tryz.pinned (.plain (OpenSpec.upto workFirstSpec)) workFirstUptoCard

/-- THE SECOND FORM's CARD OF 'chinoiserielaw05.HttpAgain'. -/
def httpAgainUptoCard : Claim7 := { stood := { row := httpAgainUptoRow, standIns := [], harness := (true, "ed430ae29e3bda28f9466bb71b79f0c38dbfe91ddf07286a37be690ef078886e"), looks := true }, kinds := [], alts := [], laidByText := true, laidKinds := [.data, .data, .data, .data, .sentinel, .sentinel, .sentinel, .widerDeep, .pinned], laidTests := true, laidLooks := .later }
def HttpAgainUptoCardSaid : Prop := Claim7.holds Tryz.pinned (.plain (OpenSpec.upto httpAgainSpec)) httpAgainUptoCard

/-- THE SECOND FORM's CARD OF 'chinoiserielaw05.HttpOnce'. -/
def httpOnceUptoCard : Claim7 := { stood := { row := httpOnceUptoRow, standIns := [], harness := (true, "ed430ae29e3bda28f9466bb71b79f0c38dbfe91ddf07286a37be690ef078886e"), looks := true }, kinds := [], alts := [], laidByText := true, laidKinds := [.data, .data, .data, .data, .sentinel, .sentinel, .sentinel, .widerDeep, .pinned], laidTests := true, laidLooks := .later }
def HttpOnceUptoCardSaid : Prop := Claim7.holds Tryz.pinned (.plain (OpenSpec.upto httpOnceSpec)) httpOnceUptoCard

/-- THE SECOND FORM's CARD OF 'chinoiserielaw05.HttpBack'. -/
def httpBackUptoCard : Claim7 := { stood := { row := httpBackUptoRow, standIns := [], harness := (true, "ed430ae29e3bda28f9466bb71b79f0c38dbfe91ddf07286a37be690ef078886e"), looks := true }, kinds := [], alts := [], laidByText := true, laidKinds := [.data, .data, .data, .data, .sentinel, .sentinel, .sentinel, .widerDeep, .pinned], laidTests := true, laidLooks := .later }
def HttpBackUptoCardSaid : Prop := Claim7.holds Tryz.pinned (.plain (OpenSpec.upto httpBackSpec)) httpBackUptoCard

/-- THE SECOND FORM's CARD OF 'chinoiserielaw05.HttpWrites'. -/
def httpWritesUptoCard : Claim7 := { stood := { row := httpWritesUptoRow, standIns := [], harness := (true, "ed430ae29e3bda28f9466bb71b79f0c38dbfe91ddf07286a37be690ef078886e"), looks := true }, kinds := [], alts := [], laidByText := true, laidKinds := [.data, .data, .data, .data, .sentinel, .sentinel, .sentinel, .widerDeep, .pinned], laidTests := true, laidLooks := .later }
def HttpWritesUptoCardSaid : Prop := Claim7.holds Tryz.pinned (.plain (OpenSpec.upto httpWritesSpec)) httpWritesUptoCard
end Rows
end Go.Proofs.YtcognpibphpadaaGreatDoor
