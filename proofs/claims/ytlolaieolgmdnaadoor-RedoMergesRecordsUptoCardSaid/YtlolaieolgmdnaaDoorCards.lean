/-
  DERIVED. GIVEN WITH THE SEED: THE CARDS: each row of YtlolaieolgmdnaaDoorRows.lean that lists a variable, with what it lists TIED to the program's text (the seventh form; the later family's looks); each row that meets fmt, with fmt's text TOLD by the authors' own Lean function (tested against real Go, not proved from fmt's source: count such statements apart). THE CARD IS WHAT COUNTS. Prove the row's statement (the work); the ties are given (YtlolaieolgmdnaaDoorTie.lean); close each card by the builder's one call (the guide's Derived/Test/ToyasCard.lean, 'card_holds'). Laid BY PROGRAM, IN A SANDBOX (cutbox-door.mjs). By AI agents, Wed Nov 11 2026. No macro, syntax, notation, axiom, sorry.
-/
import Derived.Test.YtlolaieolgmdnaaDoorRows
import GoSem.ClaimSeven
namespace Go.Proofs.YtlolaieolgmdnaaDoor
namespace Rows

/-- THE TIED CARD OF 'alumlaw10.RedoViewsShow'. -/
def redoViewsShowCard : Claim7 := { stood := { row := redoViewsShowRow, standIns := [], harness := (true, "51c8d4b3e7c789025be815c140cd8ca9109d3d8731955b4de2fd31a62c9d26da"), looks := false }, kinds := [], alts := [], laidByText := true, laidKinds := [.data, .data], laidTests := true, laidLooks := .later }
def RedoViewsShowCardSaid : Prop := Claim7.holds Tryd.pinned (.plain (OpenSpec.ofChange redoViewsShowSpec)) redoViewsShowCard

/-- THE TIED CARD OF 'alumlaw10.RedoMergesRecords'. -/
def redoMergesRecordsCard : Claim7 := { stood := { row := redoMergesRecordsRow, standIns := [], harness := (true, "51c8d4b3e7c789025be815c140cd8ca9109d3d8731955b4de2fd31a62c9d26da"), looks := false }, kinds := [], alts := [], laidByText := true, laidKinds := [.data, .data], laidTests := true, laidLooks := .later }
def RedoMergesRecordsCardSaid : Prop := Claim7.holds Tryd.pinned (.plain (OpenSpec.ofChange redoMergesRecordsSpec)) redoMergesRecordsCard

/-- THE SECOND FORM's CARD OF 'alumlaw10.RedoViewsShow'. -/
def redoViewsShowUptoCard : Claim7 := { stood := { row := redoViewsShowUptoRow, standIns := [], harness := (true, "51c8d4b3e7c789025be815c140cd8ca9109d3d8731955b4de2fd31a62c9d26da"), looks := false }, kinds := [], alts := [], laidByText := true, laidKinds := [.data, .data], laidTests := true, laidLooks := .later }
def RedoViewsShowUptoCardSaid : Prop := Claim7.holds Tryd.pinned (.plain (OpenSpec.upto redoViewsShowSpec)) redoViewsShowUptoCard

/-- THE SECOND FORM's CARD OF 'alumlaw10.RedoMergesRecords'. -/
def redoMergesRecordsUptoCard : Claim7 := { stood := { row := redoMergesRecordsUptoRow, standIns := [], harness := (true, "51c8d4b3e7c789025be815c140cd8ca9109d3d8731955b4de2fd31a62c9d26da"), looks := false }, kinds := [], alts := [], laidByText := true, laidKinds := [.data, .data], laidTests := true, laidLooks := .later }
def RedoMergesRecordsUptoCardSaid : Prop := Claim7.holds Tryd.pinned (.plain (OpenSpec.upto redoMergesRecordsSpec)) redoMergesRecordsUptoCard
end Rows
end Go.Proofs.YtlolaieolgmdnaaDoor
