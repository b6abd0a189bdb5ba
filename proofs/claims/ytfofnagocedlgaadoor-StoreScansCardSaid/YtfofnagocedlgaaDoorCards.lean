/-
  DERIVED. GIVEN WITH THE SEED: THE CARDS: each row of YtfofnagocedlgaaDoorRows.lean that lists a variable, with what it lists TIED to the program's text (the seventh form; the later family's looks); each row that meets fmt, with fmt's text TOLD by the authors' own Lean function (tested against real Go, not proved from fmt's source: count such statements apart). THE CARD IS WHAT COUNTS. Prove the row's statement (the work); the ties are given (YtfofnagocedlgaaDoorTie.lean); close each card by the builder's one call (the guide's Derived/Test/ToyasCard.lean, 'card_holds'). Laid BY PROGRAM, IN A SANDBOX (cutbox-door.mjs). By AI agents, Wed Nov 11 2026. No macro, syntax, notation, axiom, sorry.
-/
import Derived.Test.YtfofnagocedlgaaDoorRows
import GoSem.ClaimSeven
namespace Go.Proofs.YtfofnagocedlgaaDoor
namespace Rows

/-- THE TIED CARD OF 'tollhouselaw21.StoreScans'. -/
def storeScansCard : Claim7 := { stood := { row := storeScansRow, standIns := [], harness := (true, "38d7b971356d5b2c5287c76e9f71a6051cfb6c099497b9d5b2fe8c84cebd0b9d"), looks := false }, kinds := [], alts := [], laidByText := true, laidKinds := [.data, .pinned], laidTests := true, laidLooks := .later }
def StoreScansCardSaid : Prop := Claim7.holds Tryd.pinned (.plain (OpenSpec.ofChange storeScansSpec)) storeScansCard

/-- THE SECOND FORM's CARD OF 'tollhouselaw21.StoreScans'. -/
def storeScansUptoCard : Claim7 := { stood := { row := storeScansUptoRow, standIns := [], harness := (true, "38d7b971356d5b2c5287c76e9f71a6051cfb6c099497b9d5b2fe8c84cebd0b9d"), looks := false }, kinds := [], alts := [], laidByText := true, laidKinds := [.data, .pinned], laidTests := true, laidLooks := .later }
def StoreScansUptoCardSaid : Prop := Claim7.holds Tryd.pinned (.plain (OpenSpec.upto storeScansSpec)) storeScansUptoCard
end Rows
end Go.Proofs.YtfofnagocedlgaaDoor
