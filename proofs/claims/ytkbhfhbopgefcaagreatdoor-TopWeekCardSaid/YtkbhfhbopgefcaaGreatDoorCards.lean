/-
  DERIVED. GIVEN WITH THE SEED: THE CARDS: each row of YtkbhfhbopgefcaaGreatDoorRows.lean that lists a variable, with what it lists TIED to the program's text (the seventh form; the later family's looks); each row that meets fmt, with fmt's text TOLD by the authors' own Lean function (tested against real Go, not proved from fmt's source: count such statements apart). THE CARD IS WHAT COUNTS. Prove the row's statement (the work); the ties are given (YtkbhfhbopgefcaaGreatDoorTie.lean); close each card by the builder's one call (the guide's Derived/Test/ToyasCard.lean, 'card_holds'). Laid BY PROGRAM, IN A SANDBOX (cutbox-door.mjs). By AI agents, Wed Nov 11 2026. No macro, syntax, notation, axiom, sorry.
-/
import Derived.Test.YtkbhfhbopgefcaaGreatDoorRows
import GoSem.ClaimSeven
namespace Go.Proofs.YtkbhfhbopgefcaaGreatDoor
namespace Rows

/-- THE TIED CARD OF 'rentiertop.TopBill'. -/
def topBillCard : Claim7 := { stood := { row := topBillRow, standIns := [], harness := (true, "f476c1fb465b13f3803f0e5cf8fbefaf15db056564150a97163f1d3553ce9441"), looks := true }, kinds := [], alts := [], laidByText := true, laidKinds := [.data, .data, .data, .data, .handle, .sentinel, .sentinel, .pinned], laidTests := true, laidLooks := .later }
def TopBillCardSaid : Prop := Claim7.holds Tryz.pinned (.plain (OpenSpec.ofChange topBillSpec)) topBillCard

/-- THE TIED CARD OF 'rentiertop.TopWeek'. -/
def topWeekCard : Claim7 := { stood := { row := topWeekRow, standIns := [], harness := (true, "f476c1fb465b13f3803f0e5cf8fbefaf15db056564150a97163f1d3553ce9441"), looks := true }, kinds := [], alts := [], laidByText := true, laidKinds := [.data, .data, .data, .data, .handle, .sentinel, .sentinel, .pinned], laidTests := true, laidLooks := .later }
def TopWeekCardSaid : Prop := Claim7.holds Tryz.pinned (.plain (OpenSpec.ofChange topWeekSpec)) topWeekCard

/-- THE SECOND FORM's CARD OF 'rentiertop.TopBill'. -/
def topBillUptoCard : Claim7 := { stood := { row := topBillUptoRow, standIns := [], harness := (true, "f476c1fb465b13f3803f0e5cf8fbefaf15db056564150a97163f1d3553ce9441"), looks := true }, kinds := [], alts := [], laidByText := true, laidKinds := [.data, .data, .data, .data, .handle, .sentinel, .sentinel, .pinned], laidTests := true, laidLooks := .later }
def TopBillUptoCardSaid : Prop := Claim7.holds Tryz.pinned (.plain (OpenSpec.upto topBillSpec)) topBillUptoCard

/-- THE SECOND FORM's CARD OF 'rentiertop.TopWeek'. -/
def topWeekUptoCard : Claim7 := { stood := { row := topWeekUptoRow, standIns := [], harness := (true, "f476c1fb465b13f3803f0e5cf8fbefaf15db056564150a97163f1d3553ce9441"), looks := true }, kinds := [], alts := [], laidByText := true, laidKinds := [.data, .data, .data, .data, .handle, .sentinel, .sentinel, .pinned], laidTests := true, laidLooks := .later }
def TopWeekUptoCardSaid : Prop := Claim7.holds Tryz.pinned (.plain (OpenSpec.upto topWeekSpec)) topWeekUptoCard
end Rows
end Go.Proofs.YtkbhfhbopgefcaaGreatDoor
