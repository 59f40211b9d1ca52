/-
  DERIVED. GIVEN WITH THE SEED: THE CARDS: each row of YtjgbdkokcgcpjaaDoorRows.lean that lists a variable, with what it lists TIED to the program's text (the seventh form; the later family's looks); each row that meets fmt, with fmt's text TOLD by the authors' own Lean function (tested against real Go, not proved from fmt's source: count such statements apart). THE CARD IS WHAT COUNTS. Prove the row's statement (the work); the ties are given (YtjgbdkokcgcpjaaDoorTie.lean); close each card by the builder's one call (the guide's Derived/Test/ToyasCard.lean, 'card_holds'). Laid BY PROGRAM, IN A SANDBOX (cutbox-door.mjs). By AI agents, Wed Nov 11 2026. No macro, syntax, notation, axiom, sorry.
-/
import Derived.Test.YtjgbdkokcgcpjaaDoorRows
import GoSem.ClaimSeven
namespace Go.Proofs.YtjgbdkokcgcpjaaDoor
namespace Rows

/-- THE TIED CARD OF 'tidewracklaw10.SeriesMerges'. -/
def seriesMergesCard : Claim7 := { stood := { row := seriesMergesRow, standIns := [], harness := (true, "cf40eea060904d1fe3c0ff0140cb53c6ecf2de087b9bf21acb42225386df2d11"), looks := true }, kinds := [], alts := [], laidByText := true, laidKinds := [.data, .pinned], laidTests := true, laidLooks := .later }
def SeriesMergesCardSaid : Prop := Claim7.holds Tryd.pinned (.plain (OpenSpec.ofChange seriesMergesSpec)) seriesMergesCard

/-- THE TIED CARD OF 'tidewracklaw10.SeriesParts'. -/
def seriesPartsCard : Claim7 := { stood := { row := seriesPartsRow, standIns := [], harness := (true, "cf40eea060904d1fe3c0ff0140cb53c6ecf2de087b9bf21acb42225386df2d11"), looks := true }, kinds := [], alts := [], laidByText := true, laidKinds := [.data, .pinned], laidTests := true, laidLooks := .later }
def SeriesPartsCardSaid : Prop := Claim7.holds Tryd.pinned (.plain (OpenSpec.ofChange seriesPartsSpec)) seriesPartsCard

/-- THE TIED CARD OF 'tidewracklaw10.SeriesOrder'. -/
def seriesOrderCard : Claim7 := { stood := { row := seriesOrderRow, standIns := [], harness := (true, "cf40eea060904d1fe3c0ff0140cb53c6ecf2de087b9bf21acb42225386df2d11"), looks := true }, kinds := [], alts := [], laidByText := true, laidKinds := [.data, .pinned], laidTests := true, laidLooks := .later }
def SeriesOrderCardSaid : Prop := Claim7.holds Tryd.pinned (.plain (OpenSpec.ofChange seriesOrderSpec)) seriesOrderCard

/-- THE TIED CARD OF 'tidewracklaw10.SeriesGreatest'. -/
def seriesGreatestCard : Claim7 := { stood := { row := seriesGreatestRow, standIns := [], harness := (true, "cf40eea060904d1fe3c0ff0140cb53c6ecf2de087b9bf21acb42225386df2d11"), looks := true }, kinds := [], alts := [], laidByText := true, laidKinds := [.data, .pinned], laidTests := true, laidLooks := .later }
def SeriesGreatestCardSaid : Prop := Claim7.holds Tryd.pinned (.plain (OpenSpec.ofChange seriesGreatestSpec)) seriesGreatestCard

/-- THE TIED CARD OF 'tidewracklaw10.SeriesApart'. -/
def seriesApartCard : Claim7 := { stood := { row := seriesApartRow, standIns := [], harness := (true, "cf40eea060904d1fe3c0ff0140cb53c6ecf2de087b9bf21acb42225386df2d11"), looks := true }, kinds := [], alts := [], laidByText := true, laidKinds := [.data, .pinned], laidTests := true, laidLooks := .later }
def SeriesApartCardSaid : Prop := Claim7.holds Tryd.pinned (.plain (OpenSpec.ofChange seriesApartSpec)) seriesApartCard

/-- THE TIED CARD OF 'tidewracklaw10.SeriesCovers'. -/
def seriesCoversCard : Claim7 := { stood := { row := seriesCoversRow, standIns := [], harness := (true, "cf40eea060904d1fe3c0ff0140cb53c6ecf2de087b9bf21acb42225386df2d11"), looks := true }, kinds := [], alts := [], laidByText := true, laidKinds := [.data, .pinned], laidTests := true, laidLooks := .later }
def SeriesCoversCardSaid : Prop := Claim7.holds Tryd.pinned (.plain (OpenSpec.ofChange seriesCoversSpec)) seriesCoversCard

/-- THE SECOND FORM's CARD OF 'tidewracklaw10.SeriesMerges'. -/
def seriesMergesUptoCard : Claim7 := { stood := { row := seriesMergesUptoRow, standIns := [], harness := (true, "cf40eea060904d1fe3c0ff0140cb53c6ecf2de087b9bf21acb42225386df2d11"), looks := true }, kinds := [], alts := [], laidByText := true, laidKinds := [.data, .pinned], laidTests := true, laidLooks := .later }
def SeriesMergesUptoCardSaid : Prop := Claim7.holds Tryd.pinned (.plain (OpenSpec.upto seriesMergesSpec)) seriesMergesUptoCard

/-- THE SECOND FORM's CARD OF 'tidewracklaw10.SeriesParts'. -/
def seriesPartsUptoCard : Claim7 := { stood := { row := seriesPartsUptoRow, standIns := [], harness := (true, "cf40eea060904d1fe3c0ff0140cb53c6ecf2de087b9bf21acb42225386df2d11"), looks := true }, kinds := [], alts := [], laidByText := true, laidKinds := [.data, .pinned], laidTests := true, laidLooks := .later }
def SeriesPartsUptoCardSaid : Prop := Claim7.holds Tryd.pinned (.plain (OpenSpec.upto seriesPartsSpec)) seriesPartsUptoCard

/-- THE SECOND FORM's CARD OF 'tidewracklaw10.SeriesOrder'. -/
def seriesOrderUptoCard : Claim7 := { stood := { row := seriesOrderUptoRow, standIns := [], harness := (true, "cf40eea060904d1fe3c0ff0140cb53c6ecf2de087b9bf21acb42225386df2d11"), looks := true }, kinds := [], alts := [], laidByText := true, laidKinds := [.data, .pinned], laidTests := true, laidLooks := .later }
def SeriesOrderUptoCardSaid : Prop := Claim7.holds Tryd.pinned (.plain (OpenSpec.upto seriesOrderSpec)) seriesOrderUptoCard

/-- THE SECOND FORM's CARD OF 'tidewracklaw10.SeriesGreatest'. -/
def seriesGreatestUptoCard : Claim7 := { stood := { row := seriesGreatestUptoRow, standIns := [], harness := (true, "cf40eea060904d1fe3c0ff0140cb53c6ecf2de087b9bf21acb42225386df2d11"), looks := true }, kinds := [], alts := [], laidByText := true, laidKinds := [.data, .pinned], laidTests := true, laidLooks := .later }
def SeriesGreatestUptoCardSaid : Prop := Claim7.holds Tryd.pinned (.plain (OpenSpec.upto seriesGreatestSpec)) seriesGreatestUptoCard

/-- THE SECOND FORM's CARD OF 'tidewracklaw10.SeriesApart'. -/
def seriesApartUptoCard : Claim7 := { stood := { row := seriesApartUptoRow, standIns := [], harness := (true, "cf40eea060904d1fe3c0ff0140cb53c6ecf2de087b9bf21acb42225386df2d11"), looks := true }, kinds := [], alts := [], laidByText := true, laidKinds := [.data, .pinned], laidTests := true, laidLooks := .later }
def SeriesApartUptoCardSaid : Prop := Claim7.holds Tryd.pinned (.plain (OpenSpec.upto seriesApartSpec)) seriesApartUptoCard

/-- THE SECOND FORM's CARD OF 'tidewracklaw10.SeriesCovers'. -/
def seriesCoversUptoCard : Claim7 := { stood := { row := seriesCoversUptoRow, standIns := [], harness := (true, "cf40eea060904d1fe3c0ff0140cb53c6ecf2de087b9bf21acb42225386df2d11"), looks := true }, kinds := [], alts := [], laidByText := true, laidKinds := [.data, .pinned], laidTests := true, laidLooks := .later }
def SeriesCoversUptoCardSaid : Prop := Claim7.holds Tryd.pinned (.plain (OpenSpec.upto seriesCoversSpec)) seriesCoversUptoCard
end Rows
end Go.Proofs.YtjgbdkokcgcpjaaDoor
