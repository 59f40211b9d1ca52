/-
  DERIVED. GIVEN WITH THE SEED: THE CARDS: each row of YtailooldnelecaaGreatDoorRows.lean that lists a variable, with what it lists TIED to the program's text (the seventh form; the later family's looks); each row that meets fmt, with fmt's text TOLD by the authors' own Lean function (tested against real Go, not proved from fmt's source: count such statements apart). THE CARD IS WHAT COUNTS. Prove the row's statement (the work); the ties are given (YtailooldnelecaaGreatDoorTie.lean); close each card by the builder's one call (the guide's Derived/Test/ToyasCard.lean, 'card_holds'). Laid BY PROGRAM, IN A SANDBOX (cutbox-door.mjs). By AI agents, Wed Nov 11 2026. No macro, syntax, notation, axiom, sorry.
-/
import Derived.Test.YtailooldnelecaaGreatDoorRows
import GoSem.ClaimSeven
namespace Go.Proofs.YtailooldnelecaaGreatDoor
namespace Rows

/-- THE TIED CARD OF 'tidewracklaw8.HeadPlays'. -/
def headPlaysCard : Claim7 := { stood := { row := headPlaysRow, standIns := [], harness := (true, "78a511579354696b665c474f0c046d75eb9e2d2938f6cc2060979616bb67af38"), looks := false }, kinds := [], alts := [], laidByText := true, laidKinds := [.data, .pinned], laidTests := true, laidLooks := .later }
def HeadPlaysCardSaid : Prop := Claim7.holds Tryz.pinned (.plain (OpenSpec.ofChange headPlaysSpec)) headPlaysCard

/-- THE SECOND FORM's CARD OF 'tidewracklaw8.HeadPlays'. -/
def headPlaysUptoCard : Claim7 := { stood := { row := headPlaysUptoRow, standIns := [], harness := (true, "78a511579354696b665c474f0c046d75eb9e2d2938f6cc2060979616bb67af38"), looks := false }, kinds := [], alts := [], laidByText := true, laidKinds := [.data, .pinned], laidTests := true, laidLooks := .later }
def HeadPlaysUptoCardSaid : Prop := Claim7.holds Tryz.pinned (.plain (OpenSpec.upto headPlaysSpec)) headPlaysUptoCard
end Rows
end Go.Proofs.YtailooldnelecaaGreatDoor
