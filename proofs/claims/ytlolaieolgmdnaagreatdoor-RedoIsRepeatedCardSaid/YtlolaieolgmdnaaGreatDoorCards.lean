/-
  DERIVED. GIVEN WITH THE SEED: THE CARDS: each row of YtlolaieolgmdnaaGreatDoorRows.lean that lists a variable, with what it lists TIED to the program's text (the seventh form; the later family's looks); each row that meets fmt, with fmt's text TOLD by the authors' own Lean function (tested against real Go, not proved from fmt's source: count such statements apart). THE CARD IS WHAT COUNTS. Prove the row's statement (the work); the ties are given (YtlolaieolgmdnaaGreatDoorTie.lean); close each card by the builder's one call (the guide's Derived/Test/ToyasCard.lean, 'card_holds'). Laid BY PROGRAM, IN A SANDBOX (cutbox-door.mjs). By AI agents, Wed Nov 11 2026. No macro, syntax, notation, axiom, sorry.
-/
import Derived.Test.YtlolaieolgmdnaaGreatDoorRows
import GoSem.ClaimSeven
namespace Go.Proofs.YtlolaieolgmdnaaGreatDoor
namespace Rows

/-- THE TIED CARD OF 'alumlaw10.RedoViewMatchesSpec'. -/
def redoViewMatchesSpecCard : Claim7 := { stood := { row := redoViewMatchesSpecRow, standIns := [], harness := (true, "1ea3ab20c134004829847a93e23f12137c5c57f20eaa4eeed40b1d7282ce5e70"), looks := false }, kinds := [], alts := [], laidByText := true, laidKinds := [.data, .data], laidTests := true, laidLooks := .later }
def RedoViewMatchesSpecCardSaid : Prop := Claim7.holds Tryz.pinned (.plain (OpenSpec.ofChange redoViewMatchesSpecSpec)) redoViewMatchesSpecCard

/-- THE TIED CARD OF 'alumlaw10.RedoAppliesAsSpecified'. -/
def redoAppliesAsSpecifiedCard : Claim7 := { stood := { row := redoAppliesAsSpecifiedRow, standIns := [], harness := (true, "1ea3ab20c134004829847a93e23f12137c5c57f20eaa4eeed40b1d7282ce5e70"), looks := false }, kinds := [], alts := [], laidByText := true, laidKinds := [.data, .data], laidTests := true, laidLooks := .later }
def RedoAppliesAsSpecifiedCardSaid : Prop := Claim7.holds Tryz.pinned (.plain (OpenSpec.ofChange redoAppliesAsSpecifiedSpec)) redoAppliesAsSpecifiedCard

/-- THE TIED CARD OF 'alumlaw10.RedoIsRepeated'. -/
def redoIsRepeatedCard : Claim7 := { stood := { row := redoIsRepeatedRow, standIns := [], harness := (true, "1ea3ab20c134004829847a93e23f12137c5c57f20eaa4eeed40b1d7282ce5e70"), looks := false }, kinds := [], alts := [], laidByText := true, laidKinds := [.data, .data], laidTests := true, laidLooks := .later }
def RedoIsRepeatedCardSaid : Prop := Claim7.holds Tryz.pinned (.plain (OpenSpec.ofChange redoIsRepeatedSpec)) redoIsRepeatedCard

/-- THE SECOND FORM's CARD OF 'alumlaw10.RedoViewMatchesSpec'. -/
def redoViewMatchesSpecUptoCard : Claim7 := { stood := { row := redoViewMatchesSpecUptoRow, standIns := [], harness := (true, "1ea3ab20c134004829847a93e23f12137c5c57f20eaa4eeed40b1d7282ce5e70"), looks := false }, kinds := [], alts := [], laidByText := true, laidKinds := [.data, .data], laidTests := true, laidLooks := .later }
def RedoViewMatchesSpecUptoCardSaid : Prop := Claim7.holds Tryz.pinned (.plain (OpenSpec.upto redoViewMatchesSpecSpec)) redoViewMatchesSpecUptoCard

/-- THE SECOND FORM's CARD OF 'alumlaw10.RedoAppliesAsSpecified'. -/
def redoAppliesAsSpecifiedUptoCard : Claim7 := { stood := { row := redoAppliesAsSpecifiedUptoRow, standIns := [], harness := (true, "1ea3ab20c134004829847a93e23f12137c5c57f20eaa4eeed40b1d7282ce5e70"), looks := false }, kinds := [], alts := [], laidByText := true, laidKinds := [.data, .data], laidTests := true, laidLooks := .later }
def RedoAppliesAsSpecifiedUptoCardSaid : Prop := Claim7.holds Tryz.pinned (.plain (OpenSpec.upto redoAppliesAsSpecifiedSpec)) redoAppliesAsSpecifiedUptoCard

/-- THE SECOND FORM's CARD OF 'alumlaw10.RedoIsRepeated'. -/
def redoIsRepeatedUptoCard : Claim7 := { stood := { row := redoIsRepeatedUptoRow, standIns := [], harness := (true, "1ea3ab20c134004829847a93e23f12137c5c57f20eaa4eeed40b1d7282ce5e70"), looks := false }, kinds := [], alts := [], laidByText := true, laidKinds := [.data, .data], laidTests := true, laidLooks := .later }
def RedoIsRepeatedUptoCardSaid : Prop := Claim7.holds Tryz.pinned (.plain (OpenSpec.upto redoIsRepeatedSpec)) redoIsRepeatedUptoCard
end Rows
end Go.Proofs.YtlolaieolgmdnaaGreatDoor
