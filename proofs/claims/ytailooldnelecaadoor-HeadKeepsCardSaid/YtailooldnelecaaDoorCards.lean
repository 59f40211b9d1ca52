/-
  DERIVED. GIVEN WITH THE SEED: THE CARDS: each row of YtailooldnelecaaDoorRows.lean that lists a variable, with what it lists TIED to the program's text (the seventh form; the later family's looks); each row that meets fmt, with fmt's text TOLD by the authors' own Lean function (tested against real Go, not proved from fmt's source: count such statements apart). THE CARD IS WHAT COUNTS. Prove the row's statement (the work); the ties are given (YtailooldnelecaaDoorTie.lean); close each card by the builder's one call (the guide's Derived/Test/ToyasCard.lean, 'card_holds'). Laid BY PROGRAM, IN A SANDBOX (cutbox-door.mjs). By AI agents, Wed Nov 11 2026. No macro, syntax, notation, axiom, sorry.
-/
import Derived.Test.YtailooldnelecaaDoorRows
import GoSem.ClaimSeven
namespace Go.Proofs.YtailooldnelecaaDoor
namespace Rows

/-- THE TIED CARD OF 'tidewracklaw8.HeadKeeps'. -/
def headKeepsCard : Claim7 := { stood := { row := headKeepsRow, standIns := [], harness := (true, "cc9f8125f276016c753bd5a0bc8ae528beb4a7566e233bc32735a15989aba2ac"), looks := false }, kinds := [], alts := [], laidByText := true, laidKinds := [.data, .pinned], laidTests := true, laidLooks := .later }
def HeadKeepsCardSaid : Prop := Claim7.holds Tryd.pinned (.plain (OpenSpec.ofChange headKeepsSpec)) headKeepsCard

/-- THE TIED CARD OF 'tidewracklaw8.HeadCuts'. -/
def headCutsCard : Claim7 := { stood := { row := headCutsRow, standIns := [], harness := (true, "cc9f8125f276016c753bd5a0bc8ae528beb4a7566e233bc32735a15989aba2ac"), looks := false }, kinds := [], alts := [], laidByText := true, laidKinds := [.data, .pinned], laidTests := true, laidLooks := .later }
def HeadCutsCardSaid : Prop := Claim7.holds Tryd.pinned (.plain (OpenSpec.ofChange headCutsSpec)) headCutsCard

/-- THE TIED CARD OF 'tidewracklaw8.HeadSelects'. -/
def headSelectsCard : Claim7 := { stood := { row := headSelectsRow, standIns := [], harness := (true, "cc9f8125f276016c753bd5a0bc8ae528beb4a7566e233bc32735a15989aba2ac"), looks := false }, kinds := [], alts := [], laidByText := true, laidKinds := [.data, .pinned], laidTests := true, laidLooks := .later }
def HeadSelectsCardSaid : Prop := Claim7.holds Tryd.pinned (.plain (OpenSpec.ofChange headSelectsSpec)) headSelectsCard

/-- THE TIED CARD OF 'tidewracklaw8.HeadLimits'. -/
def headLimitsCard : Claim7 := { stood := { row := headLimitsRow, standIns := [], harness := (true, "cc9f8125f276016c753bd5a0bc8ae528beb4a7566e233bc32735a15989aba2ac"), looks := false }, kinds := [], alts := [], laidByText := true, laidKinds := [.data, .pinned], laidTests := true, laidLooks := .later }
def HeadLimitsCardSaid : Prop := Claim7.holds Tryd.pinned (.plain (OpenSpec.ofChange headLimitsSpec)) headLimitsCard

/-- THE SECOND FORM's CARD OF 'tidewracklaw8.HeadKeeps'. -/
def headKeepsUptoCard : Claim7 := { stood := { row := headKeepsUptoRow, standIns := [], harness := (true, "cc9f8125f276016c753bd5a0bc8ae528beb4a7566e233bc32735a15989aba2ac"), looks := false }, kinds := [], alts := [], laidByText := true, laidKinds := [.data, .pinned], laidTests := true, laidLooks := .later }
def HeadKeepsUptoCardSaid : Prop := Claim7.holds Tryd.pinned (.plain (OpenSpec.upto headKeepsSpec)) headKeepsUptoCard

/-- THE SECOND FORM's CARD OF 'tidewracklaw8.HeadCuts'. -/
def headCutsUptoCard : Claim7 := { stood := { row := headCutsUptoRow, standIns := [], harness := (true, "cc9f8125f276016c753bd5a0bc8ae528beb4a7566e233bc32735a15989aba2ac"), looks := false }, kinds := [], alts := [], laidByText := true, laidKinds := [.data, .pinned], laidTests := true, laidLooks := .later }
def HeadCutsUptoCardSaid : Prop := Claim7.holds Tryd.pinned (.plain (OpenSpec.upto headCutsSpec)) headCutsUptoCard

/-- THE SECOND FORM's CARD OF 'tidewracklaw8.HeadSelects'. -/
def headSelectsUptoCard : Claim7 := { stood := { row := headSelectsUptoRow, standIns := [], harness := (true, "cc9f8125f276016c753bd5a0bc8ae528beb4a7566e233bc32735a15989aba2ac"), looks := false }, kinds := [], alts := [], laidByText := true, laidKinds := [.data, .pinned], laidTests := true, laidLooks := .later }
def HeadSelectsUptoCardSaid : Prop := Claim7.holds Tryd.pinned (.plain (OpenSpec.upto headSelectsSpec)) headSelectsUptoCard

/-- THE SECOND FORM's CARD OF 'tidewracklaw8.HeadLimits'. -/
def headLimitsUptoCard : Claim7 := { stood := { row := headLimitsUptoRow, standIns := [], harness := (true, "cc9f8125f276016c753bd5a0bc8ae528beb4a7566e233bc32735a15989aba2ac"), looks := false }, kinds := [], alts := [], laidByText := true, laidKinds := [.data, .pinned], laidTests := true, laidLooks := .later }
def HeadLimitsUptoCardSaid : Prop := Claim7.holds Tryd.pinned (.plain (OpenSpec.upto headLimitsSpec)) headLimitsUptoCard
end Rows
end Go.Proofs.YtailooldnelecaaDoor
