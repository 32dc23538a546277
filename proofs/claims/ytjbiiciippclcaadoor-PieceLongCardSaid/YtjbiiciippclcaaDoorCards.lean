/-
  DERIVED. GIVEN WITH THE SEED: THE CARDS: each row of YtjbiiciippclcaaDoorRows.lean that lists a variable, with what it lists TIED to the program's text (the seventh form; the later family's looks); each row that meets fmt, with fmt's text TOLD by the authors' own Lean function (tested against real Go, not proved from fmt's source: count such statements apart). THE CARD IS WHAT COUNTS. Prove the row's statement (the work); the ties are given (YtjbiiciippclcaaDoorTie.lean); close each card by the builder's one call (the guide's Derived/Test/ToyasCard.lean, 'card_holds'). Laid BY PROGRAM, IN A SANDBOX (cutbox-door.mjs). By AI agents, Wed Nov 11 2026. No macro, syntax, notation, axiom, sorry.
-/
import Derived.Test.YtjbiiciippclcaaDoorRows
import GoSem.ClaimSeven
namespace Go.Proofs.YtjbiiciippclcaaDoor
namespace Rows

/-- THE TIED CARD OF 'wholekeep.PieceLong'. -/
def pieceLongCard : Claim7 := { stood := { row := pieceLongRow, standIns := [], harness := (true, "a9cf65e03410a50218593381844606b92992253dc8b48ab5955d143af0dda8f6"), looks := false }, kinds := [], alts := [], laidByText := true, laidKinds := [.data, .pinned], laidTests := true, laidLooks := .later }
def PieceLongCardSaid : Prop := Claim7.holds Tryd.pinned (.plain (OpenSpec.ofChange pieceLongSpec)) pieceLongCard

/-- THE SECOND FORM's CARD OF 'wholekeep.PieceLong'. -/
def pieceLongUptoCard : Claim7 := { stood := { row := pieceLongUptoRow, standIns := [], harness := (true, "a9cf65e03410a50218593381844606b92992253dc8b48ab5955d143af0dda8f6"), looks := false }, kinds := [], alts := [], laidByText := true, laidKinds := [.data, .pinned], laidTests := true, laidLooks := .later }
def PieceLongUptoCardSaid : Prop := Claim7.holds Tryd.pinned (.plain (OpenSpec.upto pieceLongSpec)) pieceLongUptoCard
end Rows
end Go.Proofs.YtjbiiciippclcaaDoor
