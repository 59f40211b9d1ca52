/-
  DERIVED. GIVEN WITH THE SEED: THE CARDS: each row of YtgmmcbdcabbmiaaDoorRows.lean that lists a variable, with what it lists TIED to the program's text (the seventh form; the later family's looks); each row that meets fmt, with fmt's text TOLD by the authors' own Lean function (tested against real Go, not proved from fmt's source: count such statements apart). THE CARD IS WHAT COUNTS. Prove the row's statement (the work); the ties are given (YtgmmcbdcabbmiaaDoorTie.lean); close each card by the builder's one call (the guide's Derived/Test/ToyasCard.lean, 'card_holds'). Laid BY PROGRAM, IN A SANDBOX (cutbox-door.mjs). By AI agents, Wed Nov 11 2026. No macro, syntax, notation, axiom, sorry.
-/
import Derived.Test.YtgmmcbdcabbmiaaDoorRows
import GoSem.ClaimSeven
namespace Go.Proofs.YtgmmcbdcabbmiaaDoor
namespace Rows

/-- THE TIED CARD OF 'tidewracklaw4.MatchLikes'. -/
def matchLikesCard : Claim7 := { stood := { row := matchLikesRow, standIns := [], harness := (true, "9246830329033d5973519a7ab504fdfe2d8397570f10a7d72f9ebc3683b06076"), looks := false }, kinds := [], alts := [], laidByText := true, laidKinds := [.data, .pinned], laidTests := true, laidLooks := .later }
def MatchLikesCardSaid : Prop := Claim7.holds Tryd.pinned (.plain (OpenSpec.ofChange matchLikesSpec)) matchLikesCard

/-- THE TIED CARD OF 'tidewracklaw4.MatchParts'. -/
def matchPartsCard : Claim7 := { stood := { row := matchPartsRow, standIns := [], harness := (true, "9246830329033d5973519a7ab504fdfe2d8397570f10a7d72f9ebc3683b06076"), looks := false }, kinds := [], alts := [], laidByText := true, laidKinds := [.data, .pinned], laidTests := true, laidLooks := .later }
def MatchPartsCardSaid : Prop := Claim7.holds Tryd.pinned (.plain (OpenSpec.ofChange matchPartsSpec)) matchPartsCard

/-- THE TIED CARD OF 'tidewracklaw4.MatchOpposites'. -/
def matchOppositesCard : Claim7 := { stood := { row := matchOppositesRow, standIns := [], harness := (true, "9246830329033d5973519a7ab504fdfe2d8397570f10a7d72f9ebc3683b06076"), looks := false }, kinds := [], alts := [], laidByText := true, laidKinds := [.data, .pinned], laidTests := true, laidLooks := .later }
def MatchOppositesCardSaid : Prop := Claim7.holds Tryd.pinned (.plain (OpenSpec.ofChange matchOppositesSpec)) matchOppositesCard

/-- THE SECOND FORM's CARD OF 'tidewracklaw4.MatchLikes'. -/
def matchLikesUptoCard : Claim7 := { stood := { row := matchLikesUptoRow, standIns := [], harness := (true, "9246830329033d5973519a7ab504fdfe2d8397570f10a7d72f9ebc3683b06076"), looks := false }, kinds := [], alts := [], laidByText := true, laidKinds := [.data, .pinned], laidTests := true, laidLooks := .later }
def MatchLikesUptoCardSaid : Prop := Claim7.holds Tryd.pinned (.plain (OpenSpec.upto matchLikesSpec)) matchLikesUptoCard

/-- THE SECOND FORM's CARD OF 'tidewracklaw4.MatchParts'. -/
def matchPartsUptoCard : Claim7 := { stood := { row := matchPartsUptoRow, standIns := [], harness := (true, "9246830329033d5973519a7ab504fdfe2d8397570f10a7d72f9ebc3683b06076"), looks := false }, kinds := [], alts := [], laidByText := true, laidKinds := [.data, .pinned], laidTests := true, laidLooks := .later }
def MatchPartsUptoCardSaid : Prop := Claim7.holds Tryd.pinned (.plain (OpenSpec.upto matchPartsSpec)) matchPartsUptoCard

/-- THE SECOND FORM's CARD OF 'tidewracklaw4.MatchOpposites'. -/
def matchOppositesUptoCard : Claim7 := { stood := { row := matchOppositesUptoRow, standIns := [], harness := (true, "9246830329033d5973519a7ab504fdfe2d8397570f10a7d72f9ebc3683b06076"), looks := false }, kinds := [], alts := [], laidByText := true, laidKinds := [.data, .pinned], laidTests := true, laidLooks := .later }
def MatchOppositesUptoCardSaid : Prop := Claim7.holds Tryd.pinned (.plain (OpenSpec.upto matchOppositesSpec)) matchOppositesUptoCard
end Rows
end Go.Proofs.YtgmmcbdcabbmiaaDoor
