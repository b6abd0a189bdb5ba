/-
  DERIVED. GIVEN WITH THE SEED: THE CARDS: each row of YtfofnagocedlgaaGreatDoorRows.lean that lists a variable, with what it lists TIED to the program's text (the seventh form; the later family's looks); each row that meets fmt, with fmt's text TOLD by the authors' own Lean function (tested against real Go, not proved from fmt's source: count such statements apart). THE CARD IS WHAT COUNTS. Prove the row's statement (the work); the ties are given (YtfofnagocedlgaaGreatDoorTie.lean); close each card by the builder's one call (the guide's Derived/Test/ToyasCard.lean, 'card_holds'). Laid BY PROGRAM, IN A SANDBOX (cutbox-door.mjs). By AI agents, Wed Nov 11 2026. No macro, syntax, notation, axiom, sorry.
-/
import Derived.Test.YtfofnagocedlgaaGreatDoorRows
import GoSem.ClaimSeven
namespace Go.Proofs.YtfofnagocedlgaaGreatDoor
namespace Rows

/-- THE TIED CARD OF 'tollhouselaw21.StoreSays'. -/
def storeSaysCard : Claim7 := { stood := { row := storeSaysRow, standIns := [], harness := (true, "c4196c49352c65a8ce6ebbba9a9cd81dc0e028a050c87af62cb3259420e68f13"), looks := true }, kinds := [], alts := [], laidByText := true, laidKinds := [.data, .pinned], laidTests := true, laidLooks := .later }
def StoreSaysCardSaid : Prop := Claim7.holds Tryz.pinned (.plain (OpenSpec.ofChange storeSaysSpec)) storeSaysCard

/-- THE TIED CARD OF 'tollhouselaw21.StoreTells'. -/
def storeTellsCard : Claim7 := { stood := { row := storeTellsRow, standIns := [], harness := (true, "c4196c49352c65a8ce6ebbba9a9cd81dc0e028a050c87af62cb3259420e68f13"), looks := true }, kinds := [], alts := [], laidByText := true, laidKinds := [.data, .pinned], laidTests := true, laidLooks := .later }
def StoreTellsCardSaid : Prop := Claim7.holds Tryz.pinned (.plain (OpenSpec.ofChange storeTellsSpec)) storeTellsCard

/-- THE TIED CARD OF 'tollhouselaw21.StoreLimits'. -/
def storeLimitsCard : Claim7 := { stood := { row := storeLimitsRow, standIns := [], harness := (true, "c4196c49352c65a8ce6ebbba9a9cd81dc0e028a050c87af62cb3259420e68f13"), looks := true }, kinds := [], alts := [], laidByText := true, laidKinds := [.data, .pinned], laidTests := true, laidLooks := .later }
def StoreLimitsCardSaid : Prop := Claim7.holds Tryz.pinned (.plain (OpenSpec.ofChange storeLimitsSpec)) storeLimitsCard

/-- THE TIED CARD OF 'tollhouselaw21.StorePlays'. -/
def storePlaysCard : Claim7 := { stood := { row := storePlaysRow, standIns := [], harness := (true, "c4196c49352c65a8ce6ebbba9a9cd81dc0e028a050c87af62cb3259420e68f13"), looks := true }, kinds := [], alts := [], laidByText := true, laidKinds := [.data, .pinned], laidTests := true, laidLooks := .later }
def StorePlaysCardSaid : Prop := Claim7.holds Tryz.pinned (.plain (OpenSpec.ofChange storePlaysSpec)) storePlaysCard

/-- THE TIED CARD OF 'tollhouselaw21.StoreKnown'. -/
def storeKnownCard : Claim7 := { stood := { row := storeKnownRow, standIns := [], harness := (true, "c4196c49352c65a8ce6ebbba9a9cd81dc0e028a050c87af62cb3259420e68f13"), looks := true }, kinds := [], alts := [], laidByText := true, laidKinds := [.data, .pinned], laidTests := true, laidLooks := .later }
def StoreKnownCardSaid : Prop := Claim7.holds Tryz.pinned (.plain (OpenSpec.ofChange storeKnownSpec)) storeKnownCard

/-- THE SECOND FORM's CARD OF 'tollhouselaw21.StoreSays'. -/
def storeSaysUptoCard : Claim7 := { stood := { row := storeSaysUptoRow, standIns := [], harness := (true, "c4196c49352c65a8ce6ebbba9a9cd81dc0e028a050c87af62cb3259420e68f13"), looks := true }, kinds := [], alts := [], laidByText := true, laidKinds := [.data, .pinned], laidTests := true, laidLooks := .later }
def StoreSaysUptoCardSaid : Prop := Claim7.holds Tryz.pinned (.plain (OpenSpec.upto storeSaysSpec)) storeSaysUptoCard

/-- THE SECOND FORM's CARD OF 'tollhouselaw21.StoreTells'. -/
def storeTellsUptoCard : Claim7 := { stood := { row := storeTellsUptoRow, standIns := [], harness := (true, "c4196c49352c65a8ce6ebbba9a9cd81dc0e028a050c87af62cb3259420e68f13"), looks := true }, kinds := [], alts := [], laidByText := true, laidKinds := [.data, .pinned], laidTests := true, laidLooks := .later }
def StoreTellsUptoCardSaid : Prop := Claim7.holds Tryz.pinned (.plain (OpenSpec.upto storeTellsSpec)) storeTellsUptoCard

/-- THE SECOND FORM's CARD OF 'tollhouselaw21.StoreLimits'. -/
def storeLimitsUptoCard : Claim7 := { stood := { row := storeLimitsUptoRow, standIns := [], harness := (true, "c4196c49352c65a8ce6ebbba9a9cd81dc0e028a050c87af62cb3259420e68f13"), looks := true }, kinds := [], alts := [], laidByText := true, laidKinds := [.data, .pinned], laidTests := true, laidLooks := .later }
def StoreLimitsUptoCardSaid : Prop := Claim7.holds Tryz.pinned (.plain (OpenSpec.upto storeLimitsSpec)) storeLimitsUptoCard

/-- THE SECOND FORM's CARD OF 'tollhouselaw21.StorePlays'. -/
def storePlaysUptoCard : Claim7 := { stood := { row := storePlaysUptoRow, standIns := [], harness := (true, "c4196c49352c65a8ce6ebbba9a9cd81dc0e028a050c87af62cb3259420e68f13"), looks := true }, kinds := [], alts := [], laidByText := true, laidKinds := [.data, .pinned], laidTests := true, laidLooks := .later }
def StorePlaysUptoCardSaid : Prop := Claim7.holds Tryz.pinned (.plain (OpenSpec.upto storePlaysSpec)) storePlaysUptoCard

/-- THE SECOND FORM's CARD OF 'tollhouselaw21.StoreKnown'. -/
def storeKnownUptoCard : Claim7 := { stood := { row := storeKnownUptoRow, standIns := [], harness := (true, "c4196c49352c65a8ce6ebbba9a9cd81dc0e028a050c87af62cb3259420e68f13"), looks := true }, kinds := [], alts := [], laidByText := true, laidKinds := [.data, .pinned], laidTests := true, laidLooks := .later }
def StoreKnownUptoCardSaid : Prop := Claim7.holds Tryz.pinned (.plain (OpenSpec.upto storeKnownSpec)) storeKnownUptoCard
end Rows
end Go.Proofs.YtfofnagocedlgaaGreatDoor
