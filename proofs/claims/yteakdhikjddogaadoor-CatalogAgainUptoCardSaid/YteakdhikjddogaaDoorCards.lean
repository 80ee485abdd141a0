/-
  DERIVED. GIVEN WITH THE SEED: THE CARDS: each row of YteakdhikjddogaaDoorRows.lean that lists a variable, with what it lists TIED to the program's text (the seventh form; the later family's looks); each row that meets fmt, with fmt's text TOLD by the authors' own Lean function (tested against real Go, not proved from fmt's source: count such statements apart). THE CARD IS WHAT COUNTS. Prove the row's statement (the work); the ties are given (YteakdhikjddogaaDoorTie.lean); close each card by the builder's one call (the guide's Derived/Test/ToyasCard.lean, 'card_holds'). Laid BY PROGRAM, IN A SANDBOX (cutbox-door.mjs). By AI agents, Wed Nov 11 2026. No macro, syntax, notation, axiom, sorry.
-/
import Derived.Test.YteakdhikjddogaaDoorRows
import GoSem.ClaimSeven
namespace Go.Proofs.YteakdhikjddogaaDoor
namespace Rows

/-- THE TIED CARD OF 'granarylaw18.CatalogKeeps'. -/
def catalogKeepsCard : Claim7 := { stood := { row := catalogKeepsRow, standIns := [], harness := (true, "4810d1baf554cba7cae6d0f4de424282f1c65af118ff96887f1d45b33b90b3dd"), looks := true }, kinds := [], alts := [], laidByText := true, laidKinds := [.data, .data, .data, .sentinel, .sentinel], laidTests := true, laidLooks := .later }
def CatalogKeepsCardSaid : Prop := Claim7.holds Tryd.pinned (.plain (OpenSpec.ofChange catalogKeepsSpec)) catalogKeepsCard

/-- THE TIED CARD OF 'granarylaw18.CatalogMore'. -/
def catalogMoreCard : Claim7 := { stood := { row := catalogMoreRow, standIns := [], harness := (true, "4810d1baf554cba7cae6d0f4de424282f1c65af118ff96887f1d45b33b90b3dd"), looks := true }, kinds := [], alts := [], laidByText := true, laidKinds := [.data, .data, .data, .sentinel, .sentinel], laidTests := true, laidLooks := .later }
def CatalogMoreCardSaid : Prop := Claim7.holds Tryd.pinned (.plain (OpenSpec.ofChange catalogMoreSpec)) catalogMoreCard

/-- THE TIED CARD OF 'granarylaw18.CatalogFull'. -/
def catalogFullCard : Claim7 := { stood := { row := catalogFullRow, standIns := [], harness := (true, "4810d1baf554cba7cae6d0f4de424282f1c65af118ff96887f1d45b33b90b3dd"), looks := true }, kinds := [], alts := [], laidByText := true, laidKinds := [.data, .data, .data, .sentinel, .sentinel], laidTests := true, laidLooks := .later }
def CatalogFullCardSaid : Prop := Claim7.holds Tryd.pinned (.plain (OpenSpec.ofChange catalogFullSpec)) catalogFullCard

/-- THE TIED CARD OF 'granarylaw18.CatalogAgain'. -/
def catalogAgainCard : Claim7 := { stood := { row := catalogAgainRow, standIns := [], harness := (true, "4810d1baf554cba7cae6d0f4de424282f1c65af118ff96887f1d45b33b90b3dd"), looks := true }, kinds := [], alts := [], laidByText := true, laidKinds := [.data, .data, .data, .sentinel, .sentinel], laidTests := true, laidLooks := .later }
def CatalogAgainCardSaid : Prop := Claim7.holds Tryd.pinned (.plain (OpenSpec.ofChange catalogAgainSpec)) catalogAgainCard

/-- THE TIED CARD OF 'granarylaw18.CatalogNil'. -/
def catalogNilCard : Claim7 := { stood := { row := catalogNilRow, standIns := [], harness := (true, "4810d1baf554cba7cae6d0f4de424282f1c65af118ff96887f1d45b33b90b3dd"), looks := true }, kinds := [], alts := [], laidByText := true, laidKinds := [.data, .data, .data, .sentinel, .sentinel], laidTests := true, laidLooks := .later }
def CatalogNilCardSaid : Prop := Claim7.holds Tryd.pinned (.plain (OpenSpec.ofChange catalogNilSpec)) catalogNilCard

/-- THE SECOND FORM's CARD OF 'granarylaw18.CatalogKeeps'. -/
def catalogKeepsUptoCard : Claim7 := { stood := { row := catalogKeepsUptoRow, standIns := [], harness := (true, "4810d1baf554cba7cae6d0f4de424282f1c65af118ff96887f1d45b33b90b3dd"), looks := true }, kinds := [], alts := [], laidByText := true, laidKinds := [.data, .data, .data, .sentinel, .sentinel], laidTests := true, laidLooks := .later }
def CatalogKeepsUptoCardSaid : Prop := Claim7.holds Tryd.pinned (.plain (OpenSpec.upto catalogKeepsSpec)) catalogKeepsUptoCard

/-- THE SECOND FORM's CARD OF 'granarylaw18.CatalogMore'. -/
def catalogMoreUptoCard : Claim7 := { stood := { row := catalogMoreUptoRow, standIns := [], harness := (true, "4810d1baf554cba7cae6d0f4de424282f1c65af118ff96887f1d45b33b90b3dd"), looks := true }, kinds := [], alts := [], laidByText := true, laidKinds := [.data, .data, .data, .sentinel, .sentinel], laidTests := true, laidLooks := .later }
def CatalogMoreUptoCardSaid : Prop := Claim7.holds Tryd.pinned (.plain (OpenSpec.upto catalogMoreSpec)) catalogMoreUptoCard

/-- THE SECOND FORM's CARD OF 'granarylaw18.CatalogFull'. -/
def catalogFullUptoCard : Claim7 := { stood := { row := catalogFullUptoRow, standIns := [], harness := (true, "4810d1baf554cba7cae6d0f4de424282f1c65af118ff96887f1d45b33b90b3dd"), looks := true }, kinds := [], alts := [], laidByText := true, laidKinds := [.data, .data, .data, .sentinel, .sentinel], laidTests := true, laidLooks := .later }
def CatalogFullUptoCardSaid : Prop := Claim7.holds Tryd.pinned (.plain (OpenSpec.upto catalogFullSpec)) catalogFullUptoCard

/-- THE SECOND FORM's CARD OF 'granarylaw18.CatalogAgain'. -/
def catalogAgainUptoCard : Claim7 := { stood := { row := catalogAgainUptoRow, standIns := [], harness := (true, "4810d1baf554cba7cae6d0f4de424282f1c65af118ff96887f1d45b33b90b3dd"), looks := true }, kinds := [], alts := [], laidByText := true, laidKinds := [.data, .data, .data, .sentinel, .sentinel], laidTests := true, laidLooks := .later }
def CatalogAgainUptoCardSaid : Prop := Claim7.holds Tryd.pinned (.plain (OpenSpec.upto catalogAgainSpec)) catalogAgainUptoCard

/-- THE SECOND FORM's CARD OF 'granarylaw18.CatalogNil'. -/
def catalogNilUptoCard : Claim7 := { stood := { row := catalogNilUptoRow, standIns := [], harness := (true, "4810d1baf554cba7cae6d0f4de424282f1c65af118ff96887f1d45b33b90b3dd"), looks := true }, kinds := [], alts := [], laidByText := true, laidKinds := [.data, .data, .data, .sentinel, .sentinel], laidTests := true, laidLooks := .later }
def CatalogNilUptoCardSaid : Prop := Claim7.holds Tryd.pinned (.plain (OpenSpec.upto catalogNilSpec)) catalogNilUptoCard
end Rows
end Go.Proofs.YteakdhikjddogaaDoor
