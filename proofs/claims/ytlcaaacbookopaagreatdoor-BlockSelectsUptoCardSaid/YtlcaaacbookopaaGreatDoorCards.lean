/-
  DERIVED. GIVEN WITH THE SEED: THE CARDS: each row of YtlcaaacbookopaaGreatDoorRows.lean that lists a variable, with what it lists TIED to the program's text (the seventh form; the later family's looks); each row that meets fmt, with fmt's text TOLD by the authors' own Lean function (tested against real Go, not proved from fmt's source: count such statements apart). THE CARD IS WHAT COUNTS. Prove the row's statement (the work); the ties are given (YtlcaaacbookopaaGreatDoorTie.lean); close each card by the builder's one call (the guide's Derived/Test/ToyasCard.lean, 'card_holds'). Laid BY PROGRAM, IN A SANDBOX (cutbox-door.mjs). By AI agents, Wed Nov 11 2026. No macro, syntax, notation, axiom, sorry.
-/
import Derived.Test.YtlcaaacbookopaaGreatDoorRows
import GoSem.ClaimSeven
namespace Go.Proofs.YtlcaaacbookopaaGreatDoor
namespace Rows

/-- THE TIED CARD OF 'tidewracklaw9.BlockMetas'. -/
def blockMetasCard : Claim7 := { stood := { row := blockMetasRow, standIns := [], harness := (true, "3452aeedcb42567537fd5cfc4b03cd6ab34ac95c47d63d9784921d9431261b39"), looks := true }, kinds := [], alts := [], laidByText := true, laidKinds := [.data, .pinned], laidTests := true, laidLooks := .later }
def BlockMetasCardSaid : Prop := Claim7.holds Tryz.pinned (.plain (OpenSpec.ofChange blockMetasSpec)) blockMetasCard

/-- THE TIED CARD OF 'tidewracklaw9.BlockBack'. -/
def blockBackCard : Claim7 := { stood := { row := blockBackRow, standIns := [], harness := (true, "3452aeedcb42567537fd5cfc4b03cd6ab34ac95c47d63d9784921d9431261b39"), looks := true }, kinds := [], alts := [], laidByText := true, laidKinds := [.data, .pinned], laidTests := true, laidLooks := .later }
def BlockBackCardSaid : Prop := Claim7.holds Tryz.pinned (.plain (OpenSpec.ofChange blockBackSpec)) blockBackCard

/-- THE TIED CARD OF 'tidewracklaw9.BlockTurned'. -/
def blockTurnedCard : Claim7 := { stood := { row := blockTurnedRow, standIns := [], harness := (true, "3452aeedcb42567537fd5cfc4b03cd6ab34ac95c47d63d9784921d9431261b39"), looks := true }, kinds := [], alts := [], laidByText := true, laidKinds := [.data, .pinned], laidTests := true, laidLooks := .later }
def BlockTurnedCardSaid : Prop := Claim7.holds Tryz.pinned (.plain (OpenSpec.ofChange blockTurnedSpec)) blockTurnedCard

/-- THE TIED CARD OF 'tidewracklaw9.BlockSelects'. -/
def blockSelectsCard : Claim7 := { stood := { row := blockSelectsRow, standIns := [], harness := (true, "3452aeedcb42567537fd5cfc4b03cd6ab34ac95c47d63d9784921d9431261b39"), looks := true }, kinds := [], alts := [], laidByText := true, laidKinds := [.data, .pinned], laidTests := true, laidLooks := .later }
def BlockSelectsCardSaid : Prop := Claim7.holds Tryz.pinned (.plain (OpenSpec.ofChange blockSelectsSpec)) blockSelectsCard

/-- THE SECOND FORM's CARD OF 'tidewracklaw9.BlockMetas'. -/
def blockMetasUptoCard : Claim7 := { stood := { row := blockMetasUptoRow, standIns := [], harness := (true, "3452aeedcb42567537fd5cfc4b03cd6ab34ac95c47d63d9784921d9431261b39"), looks := true }, kinds := [], alts := [], laidByText := true, laidKinds := [.data, .pinned], laidTests := true, laidLooks := .later }
def BlockMetasUptoCardSaid : Prop := Claim7.holds Tryz.pinned (.plain (OpenSpec.upto blockMetasSpec)) blockMetasUptoCard

/-- THE SECOND FORM's CARD OF 'tidewracklaw9.BlockBack'. -/
def blockBackUptoCard : Claim7 := { stood := { row := blockBackUptoRow, standIns := [], harness := (true, "3452aeedcb42567537fd5cfc4b03cd6ab34ac95c47d63d9784921d9431261b39"), looks := true }, kinds := [], alts := [], laidByText := true, laidKinds := [.data, .pinned], laidTests := true, laidLooks := .later }
def BlockBackUptoCardSaid : Prop := Claim7.holds Tryz.pinned (.plain (OpenSpec.upto blockBackSpec)) blockBackUptoCard

/-- THE SECOND FORM's CARD OF 'tidewracklaw9.BlockTurned'. -/
def blockTurnedUptoCard : Claim7 := { stood := { row := blockTurnedUptoRow, standIns := [], harness := (true, "3452aeedcb42567537fd5cfc4b03cd6ab34ac95c47d63d9784921d9431261b39"), looks := true }, kinds := [], alts := [], laidByText := true, laidKinds := [.data, .pinned], laidTests := true, laidLooks := .later }
def BlockTurnedUptoCardSaid : Prop := Claim7.holds Tryz.pinned (.plain (OpenSpec.upto blockTurnedSpec)) blockTurnedUptoCard

/-- THE SECOND FORM's CARD OF 'tidewracklaw9.BlockSelects'. -/
def blockSelectsUptoCard : Claim7 := { stood := { row := blockSelectsUptoRow, standIns := [], harness := (true, "3452aeedcb42567537fd5cfc4b03cd6ab34ac95c47d63d9784921d9431261b39"), looks := true }, kinds := [], alts := [], laidByText := true, laidKinds := [.data, .pinned], laidTests := true, laidLooks := .later }
def BlockSelectsUptoCardSaid : Prop := Claim7.holds Tryz.pinned (.plain (OpenSpec.upto blockSelectsSpec)) blockSelectsUptoCard
end Rows
end Go.Proofs.YtlcaaacbookopaaGreatDoor
