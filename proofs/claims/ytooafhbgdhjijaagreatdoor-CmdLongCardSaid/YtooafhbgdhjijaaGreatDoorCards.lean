/-
  DERIVED. GIVEN WITH THE SEED: THE CARDS: each row of YtooafhbgdhjijaaGreatDoorRows.lean that lists a variable, with what it lists TIED to the program's text (the seventh form; the later family's looks); each row that meets fmt, with fmt's text TOLD by the authors' own Lean function (tested against real Go, not proved from fmt's source: count such statements apart). THE CARD IS WHAT COUNTS. Prove the row's statement (the work); the ties are given (YtooafhbgdhjijaaGreatDoorTie.lean); close each card by the builder's one call (the guide's Derived/Test/ToyasCard.lean, 'card_holds'). Laid BY PROGRAM, IN A SANDBOX (cutbox-door.mjs). By AI agents, Wed Nov 11 2026. No macro, syntax, notation, axiom, sorry.
-/
import Derived.Test.YtooafhbgdhjijaaGreatDoorRows
import GoSem.ClaimSeven
namespace Go.Proofs.YtooafhbgdhjijaaGreatDoor
namespace Rows

/-- THE TIED CARD OF 'rentierlaw23.LedgerAll'. -/
def ledgerAllCard : Claim7 := { stood := { row := ledgerAllRow, standIns := [], harness := (true, "4bca0c7e8c734a9641814159014af10f9651c9eec8e51fd0e015496e4b4fa0f3"), looks := true }, kinds := [], alts := [], laidByText := true, laidKinds := [.pinned, .data, .sentinel, .sentinel, .data, .data, .data, .handle], laidTests := true, laidLooks := .later }
def LedgerAllCardSaid : Prop := Claim7.holds Tryz.pinned (.plain (OpenSpec.ofChange ledgerAllSpec)) ledgerAllCard

/-- THE TIED CARD OF 'rentierlaw23.BlockEven'. -/
def blockEvenCard : Claim7 := { stood := { row := blockEvenRow, standIns := [], harness := (true, "4bca0c7e8c734a9641814159014af10f9651c9eec8e51fd0e015496e4b4fa0f3"), looks := true }, kinds := [], alts := [], laidByText := true, laidKinds := [.pinned, .data, .sentinel, .sentinel, .data, .data, .data, .handle], laidTests := true, laidLooks := .later }
def BlockEvenCardSaid : Prop := Claim7.holds Tryz.pinned (.plain (OpenSpec.ofChange blockEvenSpec)) blockEvenCard

/-- THE TIED CARD OF 'rentierlaw23.BlockScale'. -/
def blockScaleCard : Claim7 := { stood := { row := blockScaleRow, standIns := [], harness := (true, "4bca0c7e8c734a9641814159014af10f9651c9eec8e51fd0e015496e4b4fa0f3"), looks := true }, kinds := [], alts := [], laidByText := true, laidKinds := [.pinned, .data, .sentinel, .sentinel, .data, .data, .data, .handle], laidTests := true, laidLooks := .later }
def BlockScaleCardSaid : Prop := Claim7.holds Tryz.pinned (.plain (OpenSpec.ofChange blockScaleSpec)) blockScaleCard

/-- THE TIED CARD OF 'rentierlaw23.CmdLong'. -/
def cmdLongCard : Claim7 := { stood := { row := cmdLongRow, standIns := [], harness := (true, "4bca0c7e8c734a9641814159014af10f9651c9eec8e51fd0e015496e4b4fa0f3"), looks := true }, kinds := [], alts := [], laidByText := true, laidKinds := [.pinned, .data, .sentinel, .sentinel, .data, .data, .data, .handle], laidTests := true, laidLooks := .later }
def CmdLongCardSaid : Prop := Claim7.holds Tryz.pinned (.plain (OpenSpec.ofChange cmdLongSpec)) cmdLongCard

/-- THE TIED CARD OF 'rentierlaw23.DeskNone'. -/
def deskNoneCard : Claim7 := { stood := { row := deskNoneRow, standIns := [], harness := (true, "4bca0c7e8c734a9641814159014af10f9651c9eec8e51fd0e015496e4b4fa0f3"), looks := true }, kinds := [], alts := [], laidByText := true, laidKinds := [.pinned, .data, .data, .data, .data, .sentinel, .sentinel, .handle], laidTests := true, laidLooks := .later }
def DeskNoneCardSaid : Prop := Claim7.holds Tryz.pinned (.plain (OpenSpec.ofChange deskNoneSpec)) deskNoneCard

/-- THE SECOND FORM's CARD OF 'rentierlaw23.LedgerAll'. -/
def ledgerAllUptoCard : Claim7 := { stood := { row := ledgerAllUptoRow, standIns := [], harness := (true, "4bca0c7e8c734a9641814159014af10f9651c9eec8e51fd0e015496e4b4fa0f3"), looks := true }, kinds := [], alts := [], laidByText := true, laidKinds := [.pinned, .data, .sentinel, .sentinel, .data, .data, .data, .handle], laidTests := true, laidLooks := .later }
def LedgerAllUptoCardSaid : Prop := Claim7.holds Tryz.pinned (.plain (OpenSpec.upto ledgerAllSpec)) ledgerAllUptoCard

/-- THE SECOND FORM's CARD OF 'rentierlaw23.BlockEven'. -/
def blockEvenUptoCard : Claim7 := { stood := { row := blockEvenUptoRow, standIns := [], harness := (true, "4bca0c7e8c734a9641814159014af10f9651c9eec8e51fd0e015496e4b4fa0f3"), looks := true }, kinds := [], alts := [], laidByText := true, laidKinds := [.pinned, .data, .sentinel, .sentinel, .data, .data, .data, .handle], laidTests := true, laidLooks := .later }
def BlockEvenUptoCardSaid : Prop := Claim7.holds Tryz.pinned (.plain (OpenSpec.upto blockEvenSpec)) blockEvenUptoCard

/-- THE SECOND FORM's CARD OF 'rentierlaw23.BlockScale'. -/
def blockScaleUptoCard : Claim7 := { stood := { row := blockScaleUptoRow, standIns := [], harness := (true, "4bca0c7e8c734a9641814159014af10f9651c9eec8e51fd0e015496e4b4fa0f3"), looks := true }, kinds := [], alts := [], laidByText := true, laidKinds := [.pinned, .data, .sentinel, .sentinel, .data, .data, .data, .handle], laidTests := true, laidLooks := .later }
def BlockScaleUptoCardSaid : Prop := Claim7.holds Tryz.pinned (.plain (OpenSpec.upto blockScaleSpec)) blockScaleUptoCard

/-- THE SECOND FORM's CARD OF 'rentierlaw23.CmdLong'. -/
def cmdLongUptoCard : Claim7 := { stood := { row := cmdLongUptoRow, standIns := [], harness := (true, "4bca0c7e8c734a9641814159014af10f9651c9eec8e51fd0e015496e4b4fa0f3"), looks := true }, kinds := [], alts := [], laidByText := true, laidKinds := [.pinned, .data, .sentinel, .sentinel, .data, .data, .data, .handle], laidTests := true, laidLooks := .later }
def CmdLongUptoCardSaid : Prop := Claim7.holds Tryz.pinned (.plain (OpenSpec.upto cmdLongSpec)) cmdLongUptoCard

/-- THE SECOND FORM's CARD OF 'rentierlaw23.DeskNone'. -/
def deskNoneUptoCard : Claim7 := { stood := { row := deskNoneUptoRow, standIns := [], harness := (true, "4bca0c7e8c734a9641814159014af10f9651c9eec8e51fd0e015496e4b4fa0f3"), looks := true }, kinds := [], alts := [], laidByText := true, laidKinds := [.pinned, .data, .data, .data, .data, .sentinel, .sentinel, .handle], laidTests := true, laidLooks := .later }
def DeskNoneUptoCardSaid : Prop := Claim7.holds Tryz.pinned (.plain (OpenSpec.upto deskNoneSpec)) deskNoneUptoCard
end Rows
end Go.Proofs.YtooafhbgdhjijaaGreatDoor
