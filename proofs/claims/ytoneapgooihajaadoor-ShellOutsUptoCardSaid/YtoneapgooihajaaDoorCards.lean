/-
  DERIVED. GIVEN WITH THE SEED: THE CARDS: each row of YtoneapgooihajaaDoorRows.lean that lists a variable, with what it lists TIED to the program's text (the seventh form; the later family's looks); each row that meets fmt, with fmt's text TOLD by the authors' own Lean function (tested against real Go, not proved from fmt's source: count such statements apart). THE CARD IS WHAT COUNTS. Prove the row's statement (the work); the ties are given (YtoneapgooihajaaDoorTie.lean); close each card by the builder's one call (the guide's Derived/Test/ToyasCard.lean, 'card_holds'). Laid BY PROGRAM, IN A SANDBOX (cutbox-door.mjs). By AI agents, Wed Nov 11 2026. No macro, syntax, notation, axiom, sorry.
-/
import Derived.Test.YtoneapgooihajaaDoorRows
import GoSem.ClaimSeven
namespace Go.Proofs.YtoneapgooihajaaDoor
namespace Rows

/-- THE TIED CARD OF 'tollhouselaw31.ShellWords'. -/
def shellWordsCard : Claim7 := { stood := { row := shellWordsRow, standIns := [], harness := (true, "cc8e908c7ba60fde95ec0e8fe280992434f5756be5d93206d37fc16031aa7ed6"), looks := true }, kinds := [], alts := [], laidByText := true, laidKinds := [.data, .data, .data, .data, .sentinel, .sentinel, .pinned], laidTests := true, laidLooks := .later }
def ShellWordsCardSaid : Prop := Claim7.holds Tryd.pinned (.plain (OpenSpec.ofChange shellWordsSpec)) shellWordsCard

/-- THE TIED CARD OF 'tollhouselaw31.ShellParts'. -/
def shellPartsCard : Claim7 := { stood := { row := shellPartsRow, standIns := [], harness := (true, "cc8e908c7ba60fde95ec0e8fe280992434f5756be5d93206d37fc16031aa7ed6"), looks := true }, kinds := [], alts := [], laidByText := true, laidKinds := [.data, .data, .data, .data, .sentinel, .sentinel, .pinned], laidTests := true, laidLooks := .later }
def ShellPartsCardSaid : Prop := Claim7.holds Tryd.pinned (.plain (OpenSpec.ofChange shellPartsSpec)) shellPartsCard

/-- THE TIED CARD OF 'tollhouselaw31.ShellJoins'. -/
def shellJoinsCard : Claim7 := { stood := { row := shellJoinsRow, standIns := [], harness := (true, "cc8e908c7ba60fde95ec0e8fe280992434f5756be5d93206d37fc16031aa7ed6"), looks := true }, kinds := [], alts := [], laidByText := true, laidKinds := [.data, .data, .data, .data, .sentinel, .sentinel, .pinned], laidTests := true, laidLooks := .later }
def ShellJoinsCardSaid : Prop := Claim7.holds Tryd.pinned (.plain (OpenSpec.ofChange shellJoinsSpec)) shellJoinsCard

/-- THE TIED CARD OF 'tollhouselaw31.ShellOuts'. -/
def shellOutsCard : Claim7 := { stood := { row := shellOutsRow, standIns := [], harness := (true, "cc8e908c7ba60fde95ec0e8fe280992434f5756be5d93206d37fc16031aa7ed6"), looks := true }, kinds := [], alts := [], laidByText := true, laidKinds := [.data, .data, .data, .data, .sentinel, .sentinel, .pinned], laidTests := true, laidLooks := .later }
def ShellOutsCardSaid : Prop := Claim7.holds Tryd.pinned (.plain (OpenSpec.ofChange shellOutsSpec)) shellOutsCard

/-- THE SECOND FORM's CARD OF 'tollhouselaw31.ShellWords'. -/
def shellWordsUptoCard : Claim7 := { stood := { row := shellWordsUptoRow, standIns := [], harness := (true, "cc8e908c7ba60fde95ec0e8fe280992434f5756be5d93206d37fc16031aa7ed6"), looks := true }, kinds := [], alts := [], laidByText := true, laidKinds := [.data, .data, .data, .data, .sentinel, .sentinel, .pinned], laidTests := true, laidLooks := .later }
def ShellWordsUptoCardSaid : Prop := Claim7.holds Tryd.pinned (.plain (OpenSpec.upto shellWordsSpec)) shellWordsUptoCard

/-- THE SECOND FORM's CARD OF 'tollhouselaw31.ShellParts'. -/
def shellPartsUptoCard : Claim7 := { stood := { row := shellPartsUptoRow, standIns := [], harness := (true, "cc8e908c7ba60fde95ec0e8fe280992434f5756be5d93206d37fc16031aa7ed6"), looks := true }, kinds := [], alts := [], laidByText := true, laidKinds := [.data, .data, .data, .data, .sentinel, .sentinel, .pinned], laidTests := true, laidLooks := .later }
def ShellPartsUptoCardSaid : Prop := Claim7.holds Tryd.pinned (.plain (OpenSpec.upto shellPartsSpec)) shellPartsUptoCard

/-- THE SECOND FORM's CARD OF 'tollhouselaw31.ShellJoins'. -/
def shellJoinsUptoCard : Claim7 := { stood := { row := shellJoinsUptoRow, standIns := [], harness := (true, "cc8e908c7ba60fde95ec0e8fe280992434f5756be5d93206d37fc16031aa7ed6"), looks := true }, kinds := [], alts := [], laidByText := true, laidKinds := [.data, .data, .data, .data, .sentinel, .sentinel, .pinned], laidTests := true, laidLooks := .later }
def ShellJoinsUptoCardSaid : Prop := Claim7.holds Tryd.pinned (.plain (OpenSpec.upto shellJoinsSpec)) shellJoinsUptoCard

/-- THE SECOND FORM's CARD OF 'tollhouselaw31.ShellOuts'. -/
def shellOutsUptoCard : Claim7 := { stood := { row := shellOutsUptoRow, standIns := [], harness := (true, "cc8e908c7ba60fde95ec0e8fe280992434f5756be5d93206d37fc16031aa7ed6"), looks := true }, kinds := [], alts := [], laidByText := true, laidKinds := [.data, .data, .data, .data, .sentinel, .sentinel, .pinned], laidTests := true, laidLooks := .later }
def ShellOutsUptoCardSaid : Prop := Claim7.holds Tryd.pinned (.plain (OpenSpec.upto shellOutsSpec)) shellOutsUptoCard
end Rows
end Go.Proofs.YtoneapgooihajaaDoor
