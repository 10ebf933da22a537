/-
  DERIVED. GIVEN WITH THE SEED: THE CARDS: each row of YtgpgegkoihalnaaGreatDoorRows.lean that lists a variable, with what it lists TIED to the program's text (the seventh form; the later family's looks); each row that meets fmt, with fmt's text TOLD by the authors' own Lean function (tested against real Go, not proved from fmt's source: count such statements apart). THE CARD IS WHAT COUNTS. Prove the row's statement (the work); the ties are given (YtgpgegkoihalnaaGreatDoorTie.lean); close each card by the builder's one call (the guide's Derived/Test/ToyasCard.lean, 'card_holds'). Laid BY PROGRAM, IN A SANDBOX (cutbox-door.mjs). By AI agents, Wed Nov 11 2026. No macro, syntax, notation, axiom, sorry.
-/
import Derived.Test.YtgpgegkoihalnaaGreatDoorRows
import GoSem.ClaimSeven
namespace Go.Proofs.YtgpgegkoihalnaaGreatDoor
namespace Rows

/-- THE TIED CARD OF 'rentierlaw23.LedgerAll'. -/
def ledgerAllCard : Claim7 := { stood := { row := ledgerAllRow, standIns := [], harness := (true, "31fc4caf28a5e998c52de8467b14e1e5485d2e7cbfbed7a6629ced179a8f9878"), looks := true }, kinds := [], alts := [], laidByText := true, laidKinds := [.pinned, .data, .sentinel, .sentinel, .data, .data, .data, .handle], laidTests := true, laidLooks := .later }
def LedgerAllCardSaid : Prop := Claim7.holds Tryz.pinned (.plain (OpenSpec.ofChange ledgerAllSpec)) ledgerAllCard

/-- THE TIED CARD OF 'rentierlaw23.LedgerBack'. -/
def ledgerBackCard : Claim7 := { stood := { row := ledgerBackRow, standIns := [], harness := (true, "31fc4caf28a5e998c52de8467b14e1e5485d2e7cbfbed7a6629ced179a8f9878"), looks := true }, kinds := [], alts := [], laidByText := true, laidKinds := [.pinned, .data, .sentinel, .sentinel, .data, .data, .data, .handle], laidTests := true, laidLooks := .later }
def LedgerBackCardSaid : Prop := Claim7.holds Tryz.pinned (.plain (OpenSpec.ofChange ledgerBackSpec)) ledgerBackCard

/-- THE TIED CARD OF 'rentierlaw23.LedgerEdge'. -/
def ledgerEdgeCard : Claim7 := { stood := { row := ledgerEdgeRow, standIns := [], harness := (true, "31fc4caf28a5e998c52de8467b14e1e5485d2e7cbfbed7a6629ced179a8f9878"), looks := true }, kinds := [], alts := [], laidByText := true, laidKinds := [.pinned, .data, .sentinel, .sentinel, .data, .data, .data, .handle], laidTests := true, laidLooks := .later }
def LedgerEdgeCardSaid : Prop := Claim7.holds Tryz.pinned (.plain (OpenSpec.ofChange ledgerEdgeSpec)) ledgerEdgeCard

/-- THE TIED CARD OF 'rentierlaw23.LedgerSplit'. -/
def ledgerSplitCard : Claim7 := { stood := { row := ledgerSplitRow, standIns := [], harness := (true, "31fc4caf28a5e998c52de8467b14e1e5485d2e7cbfbed7a6629ced179a8f9878"), looks := true }, kinds := [], alts := [], laidByText := true, laidKinds := [.pinned, .data, .sentinel, .sentinel, .data, .data, .data, .handle], laidTests := true, laidLooks := .later }
def LedgerSplitCardSaid : Prop := Claim7.holds Tryz.pinned (.plain (OpenSpec.ofChange ledgerSplitSpec)) ledgerSplitCard

/-- THE TIED CARD OF 'rentierlaw23.LedgerName'. -/
def ledgerNameCard : Claim7 := { stood := { row := ledgerNameRow, standIns := [], harness := (true, "31fc4caf28a5e998c52de8467b14e1e5485d2e7cbfbed7a6629ced179a8f9878"), looks := true }, kinds := [], alts := [], laidByText := true, laidKinds := [.pinned, .data, .sentinel, .sentinel, .data, .data, .data, .handle], laidTests := true, laidLooks := .later }
def LedgerNameCardSaid : Prop := Claim7.holds Tryz.pinned (.plain (OpenSpec.ofChange ledgerNameSpec)) ledgerNameCard

/-- THE SECOND FORM's CARD OF 'rentierlaw23.LedgerAll'. -/
def ledgerAllUptoCard : Claim7 := { stood := { row := ledgerAllUptoRow, standIns := [], harness := (true, "31fc4caf28a5e998c52de8467b14e1e5485d2e7cbfbed7a6629ced179a8f9878"), looks := true }, kinds := [], alts := [], laidByText := true, laidKinds := [.pinned, .data, .sentinel, .sentinel, .data, .data, .data, .handle], laidTests := true, laidLooks := .later }
def LedgerAllUptoCardSaid : Prop := Claim7.holds Tryz.pinned (.plain (OpenSpec.upto ledgerAllSpec)) ledgerAllUptoCard

/-- THE SECOND FORM's CARD OF 'rentierlaw23.LedgerBack'. -/
def ledgerBackUptoCard : Claim7 := { stood := { row := ledgerBackUptoRow, standIns := [], harness := (true, "31fc4caf28a5e998c52de8467b14e1e5485d2e7cbfbed7a6629ced179a8f9878"), looks := true }, kinds := [], alts := [], laidByText := true, laidKinds := [.pinned, .data, .sentinel, .sentinel, .data, .data, .data, .handle], laidTests := true, laidLooks := .later }
def LedgerBackUptoCardSaid : Prop := Claim7.holds Tryz.pinned (.plain (OpenSpec.upto ledgerBackSpec)) ledgerBackUptoCard

/-- THE SECOND FORM's CARD OF 'rentierlaw23.LedgerEdge'. -/
def ledgerEdgeUptoCard : Claim7 := { stood := { row := ledgerEdgeUptoRow, standIns := [], harness := (true, "31fc4caf28a5e998c52de8467b14e1e5485d2e7cbfbed7a6629ced179a8f9878"), looks := true }, kinds := [], alts := [], laidByText := true, laidKinds := [.pinned, .data, .sentinel, .sentinel, .data, .data, .data, .handle], laidTests := true, laidLooks := .later }
def LedgerEdgeUptoCardSaid : Prop := Claim7.holds Tryz.pinned (.plain (OpenSpec.upto ledgerEdgeSpec)) ledgerEdgeUptoCard

/-- THE SECOND FORM's CARD OF 'rentierlaw23.LedgerSplit'. -/
def ledgerSplitUptoCard : Claim7 := { stood := { row := ledgerSplitUptoRow, standIns := [], harness := (true, "31fc4caf28a5e998c52de8467b14e1e5485d2e7cbfbed7a6629ced179a8f9878"), looks := true }, kinds := [], alts := [], laidByText := true, laidKinds := [.pinned, .data, .sentinel, .sentinel, .data, .data, .data, .handle], laidTests := true, laidLooks := .later }
def LedgerSplitUptoCardSaid : Prop := Claim7.holds Tryz.pinned (.plain (OpenSpec.upto ledgerSplitSpec)) ledgerSplitUptoCard

/-- THE SECOND FORM's CARD OF 'rentierlaw23.LedgerName'. -/
def ledgerNameUptoCard : Claim7 := { stood := { row := ledgerNameUptoRow, standIns := [], harness := (true, "31fc4caf28a5e998c52de8467b14e1e5485d2e7cbfbed7a6629ced179a8f9878"), looks := true }, kinds := [], alts := [], laidByText := true, laidKinds := [.pinned, .data, .sentinel, .sentinel, .data, .data, .data, .handle], laidTests := true, laidLooks := .later }
def LedgerNameUptoCardSaid : Prop := Claim7.holds Tryz.pinned (.plain (OpenSpec.upto ledgerNameSpec)) ledgerNameUptoCard
end Rows
end Go.Proofs.YtgpgegkoihalnaaGreatDoor
