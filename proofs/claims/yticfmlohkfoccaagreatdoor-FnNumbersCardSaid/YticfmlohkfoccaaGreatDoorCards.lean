/-
  DERIVED. GIVEN WITH THE SEED: THE CARDS: each row of YticfmlohkfoccaaGreatDoorRows.lean that lists a variable, with what it lists TIED to the program's text (the seventh form; the later family's looks); each row that meets fmt, with fmt's text TOLD by the authors' own Lean function (tested against real Go, not proved from fmt's source: count such statements apart). THE CARD IS WHAT COUNTS. Prove the row's statement (the work); the ties are given (YticfmlohkfoccaaGreatDoorTie.lean); close each card by the builder's one call (the guide's Derived/Test/ToyasCard.lean, 'card_holds'). Laid BY PROGRAM, IN A SANDBOX (cutbox-door.mjs). By AI agents, Wed Nov 11 2026. No macro, syntax, notation, axiom, sorry.
-/
import Derived.Test.YticfmlohkfoccaaGreatDoorRows
import GoSem.ClaimSeven
namespace Go.Proofs.YticfmlohkfoccaaGreatDoor
namespace Rows

/-- THE TIED CARD OF 'laws.FnExactReadWalls'. -/
def fnExactReadWallsCard : Claim7 := { stood := { row := fnExactReadWallsRow, standIns := [], harness := (true, "7452b9ba4cb4b31971f15ae2e1db7ee9e48aeb49c75025b82c442e09eccdfe60"), looks := true }, kinds := [], alts := [], laidByText := true, laidKinds := [.data, .data, .data, .data, .sentinel, .sentinel, .pinned], laidTests := true, laidLooks := .later }
def FnExactReadWallsCardSaid : Prop := Claim7.holds Tryz.pinned (.plain (OpenSpec.ofChange fnExactReadWallsSpec)) fnExactReadWallsCard

/-- THE TIED CARD OF 'laws.FnExactReadGrain'. -/
def fnExactReadGrainCard : Claim7 := { stood := { row := fnExactReadGrainRow, standIns := [], harness := (true, "7452b9ba4cb4b31971f15ae2e1db7ee9e48aeb49c75025b82c442e09eccdfe60"), looks := true }, kinds := [], alts := [], laidByText := true, laidKinds := [.data, .data, .data, .data, .sentinel, .sentinel, .pinned], laidTests := true, laidLooks := .later }
def FnExactReadGrainCardSaid : Prop := Claim7.holds Tryz.pinned (.plain (OpenSpec.ofChange fnExactReadGrainSpec)) fnExactReadGrainCard

/-- THE TIED CARD OF 'laws.FnProducts'. -/
def fnProductsCard : Claim7 := { stood := { row := fnProductsRow, standIns := [], harness := (true, "7452b9ba4cb4b31971f15ae2e1db7ee9e48aeb49c75025b82c442e09eccdfe60"), looks := true }, kinds := [], alts := [], laidByText := true, laidKinds := [.data, .data, .data, .data, .sentinel, .sentinel, .pinned], laidTests := true, laidLooks := .later }
def FnProductsCardSaid : Prop := Claim7.holds Tryz.pinned (.plain (OpenSpec.ofChange fnProductsSpec)) fnProductsCard

/-- THE TIED CARD OF 'laws.FnNumbers'. -/
def fnNumbersCard : Claim7 := { stood := { row := fnNumbersRow, standIns := [], harness := (true, "7452b9ba4cb4b31971f15ae2e1db7ee9e48aeb49c75025b82c442e09eccdfe60"), looks := true }, kinds := [], alts := [], laidByText := true, laidKinds := [.data, .data, .data, .data, .sentinel, .sentinel, .pinned], laidTests := true, laidLooks := .later }
def FnNumbersCardSaid : Prop := Claim7.holds Tryz.pinned (.plain (OpenSpec.ofChange fnNumbersSpec)) fnNumbersCard

/-- THE TIED CARD OF 'laws.FnExactReadHeap'. -/
def fnExactReadHeapCard : Claim7 := { stood := { row := fnExactReadHeapRow, standIns := [], harness := (true, "7452b9ba4cb4b31971f15ae2e1db7ee9e48aeb49c75025b82c442e09eccdfe60"), looks := true }, kinds := [], alts := [], laidByText := true, laidKinds := [.data, .data, .data, .data, .sentinel, .sentinel, .pinned], laidTests := true, laidLooks := .later }
def FnExactReadHeapCardSaid : Prop := Claim7.holds Tryz.pinned (.plain (OpenSpec.ofChange fnExactReadHeapSpec)) fnExactReadHeapCard

/-- THE SECOND FORM's CARD OF 'laws.FnExactReadWalls'. -/
def fnExactReadWallsUptoCard : Claim7 := { stood := { row := fnExactReadWallsUptoRow, standIns := [], harness := (true, "7452b9ba4cb4b31971f15ae2e1db7ee9e48aeb49c75025b82c442e09eccdfe60"), looks := true }, kinds := [], alts := [], laidByText := true, laidKinds := [.data, .data, .data, .data, .sentinel, .sentinel, .pinned], laidTests := true, laidLooks := .later }
def FnExactReadWallsUptoCardSaid : Prop := Claim7.holds Tryz.pinned (.plain (OpenSpec.upto fnExactReadWallsSpec)) fnExactReadWallsUptoCard

/-- THE SECOND FORM's CARD OF 'laws.FnExactReadGrain'. -/
def fnExactReadGrainUptoCard : Claim7 := { stood := { row := fnExactReadGrainUptoRow, standIns := [], harness := (true, "7452b9ba4cb4b31971f15ae2e1db7ee9e48aeb49c75025b82c442e09eccdfe60"), looks := true }, kinds := [], alts := [], laidByText := true, laidKinds := [.data, .data, .data, .data, .sentinel, .sentinel, .pinned], laidTests := true, laidLooks := .later }
def FnExactReadGrainUptoCardSaid : Prop := Claim7.holds Tryz.pinned (.plain (OpenSpec.upto fnExactReadGrainSpec)) fnExactReadGrainUptoCard

/-- THE SECOND FORM's CARD OF 'laws.FnProducts'. -/
def fnProductsUptoCard : Claim7 := { stood := { row := fnProductsUptoRow, standIns := [], harness := (true, "7452b9ba4cb4b31971f15ae2e1db7ee9e48aeb49c75025b82c442e09eccdfe60"), looks := true }, kinds := [], alts := [], laidByText := true, laidKinds := [.data, .data, .data, .data, .sentinel, .sentinel, .pinned], laidTests := true, laidLooks := .later }
def FnProductsUptoCardSaid : Prop := Claim7.holds Tryz.pinned (.plain (OpenSpec.upto fnProductsSpec)) fnProductsUptoCard

/-- THE SECOND FORM's CARD OF 'laws.FnNumbers'. -/
def fnNumbersUptoCard : Claim7 := { stood := { row := fnNumbersUptoRow, standIns := [], harness := (true, "7452b9ba4cb4b31971f15ae2e1db7ee9e48aeb49c75025b82c442e09eccdfe60"), looks := true }, kinds := [], alts := [], laidByText := true, laidKinds := [.data, .data, .data, .data, .sentinel, .sentinel, .pinned], laidTests := true, laidLooks := .later }
def FnNumbersUptoCardSaid : Prop := Claim7.holds Tryz.pinned (.plain (OpenSpec.upto fnNumbersSpec)) fnNumbersUptoCard

/-- THE SECOND FORM's CARD OF 'laws.FnExactReadHeap'. -/
def fnExactReadHeapUptoCard : Claim7 := { stood := { row := fnExactReadHeapUptoRow, standIns := [], harness := (true, "7452b9ba4cb4b31971f15ae2e1db7ee9e48aeb49c75025b82c442e09eccdfe60"), looks := true }, kinds := [], alts := [], laidByText := true, laidKinds := [.data, .data, .data, .data, .sentinel, .sentinel, .pinned], laidTests := true, laidLooks := .later }
def FnExactReadHeapUptoCardSaid : Prop := Claim7.holds Tryz.pinned (.plain (OpenSpec.upto fnExactReadHeapSpec)) fnExactReadHeapUptoCard
end Rows
end Go.Proofs.YticfmlohkfoccaaGreatDoor
