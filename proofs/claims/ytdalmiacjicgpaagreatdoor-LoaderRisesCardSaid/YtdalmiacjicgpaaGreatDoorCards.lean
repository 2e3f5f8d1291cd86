/-
  DERIVED. GIVEN WITH THE SEED: THE CARDS: each row of YtdalmiacjicgpaaGreatDoorRows.lean that lists a variable, with what it lists TIED to the program's text (the seventh form; the later family's looks); each row that meets fmt, with fmt's text TOLD by the authors' own Lean function (tested against real Go, not proved from fmt's source: count such statements apart). THE CARD IS WHAT COUNTS. Prove the row's statement (the work); the ties are given (YtdalmiacjicgpaaGreatDoorTie.lean); close each card by the builder's one call (the guide's Derived/Test/ToyasCard.lean, 'card_holds'). Laid BY PROGRAM, IN A SANDBOX (cutbox-door.mjs). By AI agents, Wed Nov 11 2026. No macro, syntax, notation, axiom, sorry.
-/
import Derived.Test.YtdalmiacjicgpaaGreatDoorRows
import GoSem.ClaimSeven
namespace Go.Proofs.YtdalmiacjicgpaaGreatDoor
namespace Rows

/-- THE TIED CARD OF 'nacellelaw21.LoaderRises'. -/
def loaderRisesCard : Claim7 := { stood := { row := loaderRisesRow, standIns := [], harness := (true, "8c28cfafa5eacfacfd86a5d73b7286c132160bd8189aa5be6500100b0df0c1d8"), looks := true }, kinds := [], alts := [], laidByText := true, laidKinds := [.data, .data, .handle, .data], laidTests := true, laidLooks := .later }
def LoaderRisesCardSaid : Prop := Claim7.holds Tryz.pinned (.plain (OpenSpec.ofChange loaderRisesSpec)) loaderRisesCard

/-- THE TIED CARD OF 'nacellelaw21.LoaderApart'. -/
def loaderApartCard : Claim7 := { stood := { row := loaderApartRow, standIns := [], harness := (true, "8c28cfafa5eacfacfd86a5d73b7286c132160bd8189aa5be6500100b0df0c1d8"), looks := true }, kinds := [], alts := [], laidByText := true, laidKinds := [.data, .data, .handle, .data], laidTests := true, laidLooks := .later }
def LoaderApartCardSaid : Prop := Claim7.holds Tryz.pinned (.plain (OpenSpec.ofChange loaderApartSpec)) loaderApartCard

/-- THE TIED CARD OF 'nacellelaw14.ConfigNumbers'. -/
def configNumbersCard : Claim7 := { stood := { row := configNumbersRow, standIns := [], harness := (true, "8c28cfafa5eacfacfd86a5d73b7286c132160bd8189aa5be6500100b0df0c1d8"), looks := true }, kinds := [], alts := [], laidByText := true, laidKinds := [.handle, .data], laidTests := true, laidLooks := .later }
def ConfigNumbersCardSaid : Prop := Claim7.holds Tryz.pinned (.plain (OpenSpec.ofChange configNumbersSpec)) configNumbersCard

/-- THE TIED CARD OF 'nacellelaw21.LoaderSwitches'. -/
def loaderSwitchesCard : Claim7 := { stood := { row := loaderSwitchesRow, standIns := [], harness := (true, "8c28cfafa5eacfacfd86a5d73b7286c132160bd8189aa5be6500100b0df0c1d8"), looks := true }, kinds := [], alts := [], laidByText := true, laidKinds := [.data, .data, .handle, .data], laidTests := true, laidLooks := .later }
def LoaderSwitchesCardSaid : Prop := Claim7.holds Tryz.pinned (.plain (OpenSpec.ofChange loaderSwitchesSpec)) loaderSwitchesCard

/-- THE TIED CARD OF 'nacellelaw21.LoaderNotes'. -/
def loaderNotesCard : Claim7 := { stood := { row := loaderNotesRow, standIns := [], harness := (true, "8c28cfafa5eacfacfd86a5d73b7286c132160bd8189aa5be6500100b0df0c1d8"), looks := true }, kinds := [], alts := [], laidByText := true, laidKinds := [.data, .data, .handle, .data], laidTests := true, laidLooks := .later }
def LoaderNotesCardSaid : Prop := Claim7.holds Tryz.pinned (.plain (OpenSpec.ofChange loaderNotesSpec)) loaderNotesCard

/-- THE TIED CARD OF 'nacellelaw14.ConfigBack'. -/
def configBackCard : Claim7 := { stood := { row := configBackRow, standIns := [], harness := (true, "8c28cfafa5eacfacfd86a5d73b7286c132160bd8189aa5be6500100b0df0c1d8"), looks := true }, kinds := [], alts := [], laidByText := true, laidKinds := [.handle, .data], laidTests := true, laidLooks := .later }
def ConfigBackCardSaid : Prop := Claim7.holds Tryz.pinned (.plain (OpenSpec.ofChange configBackSpec)) configBackCard

/-- THE SECOND FORM's CARD OF 'nacellelaw21.LoaderRises'. -/
def loaderRisesUptoCard : Claim7 := { stood := { row := loaderRisesUptoRow, standIns := [], harness := (true, "8c28cfafa5eacfacfd86a5d73b7286c132160bd8189aa5be6500100b0df0c1d8"), looks := true }, kinds := [], alts := [], laidByText := true, laidKinds := [.data, .data, .handle, .data], laidTests := true, laidLooks := .later }
def LoaderRisesUptoCardSaid : Prop := Claim7.holds Tryz.pinned (.plain (OpenSpec.upto loaderRisesSpec)) loaderRisesUptoCard

/-- THE SECOND FORM's CARD OF 'nacellelaw21.LoaderApart'. -/
def loaderApartUptoCard : Claim7 := { stood := { row := loaderApartUptoRow, standIns := [], harness := (true, "8c28cfafa5eacfacfd86a5d73b7286c132160bd8189aa5be6500100b0df0c1d8"), looks := true }, kinds := [], alts := [], laidByText := true, laidKinds := [.data, .data, .handle, .data], laidTests := true, laidLooks := .later }
def LoaderApartUptoCardSaid : Prop := Claim7.holds Tryz.pinned (.plain (OpenSpec.upto loaderApartSpec)) loaderApartUptoCard

/-- THE SECOND FORM's CARD OF 'nacellelaw14.ConfigNumbers'. -/
def configNumbersUptoCard : Claim7 := { stood := { row := configNumbersUptoRow, standIns := [], harness := (true, "8c28cfafa5eacfacfd86a5d73b7286c132160bd8189aa5be6500100b0df0c1d8"), looks := true }, kinds := [], alts := [], laidByText := true, laidKinds := [.handle, .data], laidTests := true, laidLooks := .later }
def ConfigNumbersUptoCardSaid : Prop := Claim7.holds Tryz.pinned (.plain (OpenSpec.upto configNumbersSpec)) configNumbersUptoCard

/-- THE SECOND FORM's CARD OF 'nacellelaw21.LoaderSwitches'. -/
def loaderSwitchesUptoCard : Claim7 := { stood := { row := loaderSwitchesUptoRow, standIns := [], harness := (true, "8c28cfafa5eacfacfd86a5d73b7286c132160bd8189aa5be6500100b0df0c1d8"), looks := true }, kinds := [], alts := [], laidByText := true, laidKinds := [.data, .data, .handle, .data], laidTests := true, laidLooks := .later }
def LoaderSwitchesUptoCardSaid : Prop := Claim7.holds Tryz.pinned (.plain (OpenSpec.upto loaderSwitchesSpec)) loaderSwitchesUptoCard

/-- THE SECOND FORM's CARD OF 'nacellelaw21.LoaderNotes'. -/
def loaderNotesUptoCard : Claim7 := { stood := { row := loaderNotesUptoRow, standIns := [], harness := (true, "8c28cfafa5eacfacfd86a5d73b7286c132160bd8189aa5be6500100b0df0c1d8"), looks := true }, kinds := [], alts := [], laidByText := true, laidKinds := [.data, .data, .handle, .data], laidTests := true, laidLooks := .later }
def LoaderNotesUptoCardSaid : Prop := Claim7.holds Tryz.pinned (.plain (OpenSpec.upto loaderNotesSpec)) loaderNotesUptoCard

/-- THE SECOND FORM's CARD OF 'nacellelaw14.ConfigBack'. -/
def configBackUptoCard : Claim7 := { stood := { row := configBackUptoRow, standIns := [], harness := (true, "8c28cfafa5eacfacfd86a5d73b7286c132160bd8189aa5be6500100b0df0c1d8"), looks := true }, kinds := [], alts := [], laidByText := true, laidKinds := [.handle, .data], laidTests := true, laidLooks := .later }
def ConfigBackUptoCardSaid : Prop := Claim7.holds Tryz.pinned (.plain (OpenSpec.upto configBackSpec)) configBackUptoCard
end Rows
end Go.Proofs.YtdalmiacjicgpaaGreatDoor
