/-
  DERIVED. GIVEN WITH THE SEED: THE CARDS: each row of YtjlmihjhakfchaaGreatDoorRows.lean that lists a variable, with what it lists TIED to the program's text (the seventh form; the later family's looks); each row that meets fmt, with fmt's text TOLD by the authors' own Lean function (tested against real Go, not proved from fmt's source: count such statements apart). THE CARD IS WHAT COUNTS. Prove the row's statement (the work); the ties are given (YtjlmihjhakfchaaGreatDoorTie.lean); close each card by the builder's one call (the guide's Derived/Test/ToyasCard.lean, 'card_holds'). Laid BY PROGRAM, IN A SANDBOX (cutbox-door.mjs). By AI agents, Wed Nov 11 2026. No macro, syntax, notation, axiom, sorry.
-/
import Derived.Test.YtjlmihjhakfchaaGreatDoorRows
import GoSem.ClaimSeven
namespace Go.Proofs.YtjlmihjhakfchaaGreatDoor
namespace Rows

/-- THE TIED CARD OF 'rentierlaw23.BlockEven'. -/
def blockEvenCard : Claim7 := { stood := { row := blockEvenRow, standIns := [], harness := (true, "75ee882bd0b0e71a0034cb9863177baaf1fa50a3d4127174be576939b6d33b35"), looks := true }, kinds := [], alts := [], laidByText := true, laidKinds := [.pinned, .data, .sentinel, .sentinel, .data, .data, .data, .handle], laidTests := true, laidLooks := .later }
def BlockEvenCardSaid : Prop := Claim7.holds Tryz.pinned (.plain (OpenSpec.ofChange blockEvenSpec)) blockEvenCard

/-- THE TIED CARD OF 'rentierlaw23.BlockScale'. -/
def blockScaleCard : Claim7 := { stood := { row := blockScaleRow, standIns := [], harness := (true, "75ee882bd0b0e71a0034cb9863177baaf1fa50a3d4127174be576939b6d33b35"), looks := true }, kinds := [], alts := [], laidByText := true, laidKinds := [.pinned, .data, .sentinel, .sentinel, .data, .data, .data, .handle], laidTests := true, laidLooks := .later }
def BlockScaleCardSaid : Prop := Claim7.holds Tryz.pinned (.plain (OpenSpec.ofChange blockScaleSpec)) blockScaleCard

/-- THE TIED CARD OF 'rentierlaw23.BlockAll'. -/
def blockAllCard : Claim7 := { stood := { row := blockAllRow, standIns := [], harness := (true, "75ee882bd0b0e71a0034cb9863177baaf1fa50a3d4127174be576939b6d33b35"), looks := true }, kinds := [], alts := [], laidByText := true, laidKinds := [.pinned, .data, .sentinel, .sentinel, .data, .data, .data, .handle], laidTests := true, laidLooks := .later }
def BlockAllCardSaid : Prop := Claim7.holds Tryz.pinned (.plain (OpenSpec.ofChange blockAllSpec)) blockAllCard

/-- THE TIED CARD OF 'rentierlaw23.CmdWords'. -/
def cmdWordsCard : Claim7 := { stood := { row := cmdWordsRow, standIns := [], harness := (true, "75ee882bd0b0e71a0034cb9863177baaf1fa50a3d4127174be576939b6d33b35"), looks := true }, kinds := [], alts := [], laidByText := true, laidKinds := [.pinned, .data, .sentinel, .sentinel, .data, .data, .data, .handle], laidTests := true, laidLooks := .later }
def CmdWordsCardSaid : Prop := Claim7.holds Tryz.pinned (.plain (OpenSpec.ofChange cmdWordsSpec)) cmdWordsCard

/-- THE TIED CARD OF 'rentierlaw23.CmdGet'. -/
def cmdGetCard : Claim7 := { stood := { row := cmdGetRow, standIns := [], harness := (true, "75ee882bd0b0e71a0034cb9863177baaf1fa50a3d4127174be576939b6d33b35"), looks := true }, kinds := [], alts := [], laidByText := true, laidKinds := [.pinned, .data, .sentinel, .sentinel, .data, .data, .data, .handle], laidTests := true, laidLooks := .later }
def CmdGetCardSaid : Prop := Claim7.holds Tryz.pinned (.plain (OpenSpec.ofChange cmdGetSpec)) cmdGetCard

/-- THE TIED CARD OF 'rentierlaw23.CmdPut'. -/
def cmdPutCard : Claim7 := { stood := { row := cmdPutRow, standIns := [], harness := (true, "75ee882bd0b0e71a0034cb9863177baaf1fa50a3d4127174be576939b6d33b35"), looks := true }, kinds := [], alts := [], laidByText := true, laidKinds := [.pinned, .data, .sentinel, .sentinel, .data, .data, .data, .handle], laidTests := true, laidLooks := .later }
def CmdPutCardSaid : Prop := Claim7.holds Tryz.pinned (.plain (OpenSpec.ofChange cmdPutSpec)) cmdPutCard

/-- THE SECOND FORM's CARD OF 'rentierlaw23.BlockEven'. -/
def blockEvenUptoCard : Claim7 := { stood := { row := blockEvenUptoRow, standIns := [], harness := (true, "75ee882bd0b0e71a0034cb9863177baaf1fa50a3d4127174be576939b6d33b35"), looks := true }, kinds := [], alts := [], laidByText := true, laidKinds := [.pinned, .data, .sentinel, .sentinel, .data, .data, .data, .handle], laidTests := true, laidLooks := .later }
def BlockEvenUptoCardSaid : Prop := Claim7.holds Tryz.pinned (.plain (OpenSpec.upto blockEvenSpec)) blockEvenUptoCard

/-- THE SECOND FORM's CARD OF 'rentierlaw23.BlockScale'. -/
def blockScaleUptoCard : Claim7 := { stood := { row := blockScaleUptoRow, standIns := [], harness := (true, "75ee882bd0b0e71a0034cb9863177baaf1fa50a3d4127174be576939b6d33b35"), looks := true }, kinds := [], alts := [], laidByText := true, laidKinds := [.pinned, .data, .sentinel, .sentinel, .data, .data, .data, .handle], laidTests := true, laidLooks := .later }
def BlockScaleUptoCardSaid : Prop := Claim7.holds Tryz.pinned (.plain (OpenSpec.upto blockScaleSpec)) blockScaleUptoCard

/-- THE SECOND FORM's CARD OF 'rentierlaw23.BlockAll'. -/
def blockAllUptoCard : Claim7 := { stood := { row := blockAllUptoRow, standIns := [], harness := (true, "75ee882bd0b0e71a0034cb9863177baaf1fa50a3d4127174be576939b6d33b35"), looks := true }, kinds := [], alts := [], laidByText := true, laidKinds := [.pinned, .data, .sentinel, .sentinel, .data, .data, .data, .handle], laidTests := true, laidLooks := .later }
def BlockAllUptoCardSaid : Prop := Claim7.holds Tryz.pinned (.plain (OpenSpec.upto blockAllSpec)) blockAllUptoCard

/-- THE SECOND FORM's CARD OF 'rentierlaw23.CmdWords'. -/
def cmdWordsUptoCard : Claim7 := { stood := { row := cmdWordsUptoRow, standIns := [], harness := (true, "75ee882bd0b0e71a0034cb9863177baaf1fa50a3d4127174be576939b6d33b35"), looks := true }, kinds := [], alts := [], laidByText := true, laidKinds := [.pinned, .data, .sentinel, .sentinel, .data, .data, .data, .handle], laidTests := true, laidLooks := .later }
def CmdWordsUptoCardSaid : Prop := Claim7.holds Tryz.pinned (.plain (OpenSpec.upto cmdWordsSpec)) cmdWordsUptoCard

/-- THE SECOND FORM's CARD OF 'rentierlaw23.CmdGet'. -/
def cmdGetUptoCard : Claim7 := { stood := { row := cmdGetUptoRow, standIns := [], harness := (true, "75ee882bd0b0e71a0034cb9863177baaf1fa50a3d4127174be576939b6d33b35"), looks := true }, kinds := [], alts := [], laidByText := true, laidKinds := [.pinned, .data, .sentinel, .sentinel, .data, .data, .data, .handle], laidTests := true, laidLooks := .later }
def CmdGetUptoCardSaid : Prop := Claim7.holds Tryz.pinned (.plain (OpenSpec.upto cmdGetSpec)) cmdGetUptoCard

/-- THE SECOND FORM's CARD OF 'rentierlaw23.CmdPut'. -/
def cmdPutUptoCard : Claim7 := { stood := { row := cmdPutUptoRow, standIns := [], harness := (true, "75ee882bd0b0e71a0034cb9863177baaf1fa50a3d4127174be576939b6d33b35"), looks := true }, kinds := [], alts := [], laidByText := true, laidKinds := [.pinned, .data, .sentinel, .sentinel, .data, .data, .data, .handle], laidTests := true, laidLooks := .later }
def CmdPutUptoCardSaid : Prop := Claim7.holds Tryz.pinned (.plain (OpenSpec.upto cmdPutSpec)) cmdPutUptoCard
end Rows
end Go.Proofs.YtjlmihjhakfchaaGreatDoor
