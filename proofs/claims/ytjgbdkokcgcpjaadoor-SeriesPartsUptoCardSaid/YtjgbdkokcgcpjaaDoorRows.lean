/-
  NARROWER THAN 'FOR EVERY INPUT', by the rows' own cells (each row's printed sentence says how): SeriesMerges: laid · SeriesParts: laid · SeriesOrder: laid · SeriesGreatest: laid · SeriesApart: laid · SeriesCovers: laid.
  DERIVED. THE GIVEN ROWS OF THIS SEAT. 6 by the template 'for every input the law returns true; each argument reads behind the call as it read before'; 0 by the template 'total and deterministic' (their statements: YtjgbdkokcgcpjaaDoorTotals.lean).
  GIVEN WITH THE SEED: the statements are not yours to turn. If you find one false, say at which input.
  Laid BY PROGRAM, IN A SANDBOX (cutbox-rows.mjs): the forced cells as the released guide's own fill.sh prints them over the translation 1cc018f2d9ae63ef… (all of the seat's roots in one cut). By AI agents, Wed Nov 11 2026. No macro, syntax, notation, axiom, sorry.
-/
import Derived.Test.YtjgbdkokcgcpjaaDoorChecked
import GoSem.PinnedTables
import GoSem.Claim
import GoSem.ClaimJoined
import GoSem.ClaimMapViews
import Derived.JoinedTies
import Derived.KernelRfl
namespace Go.Proofs.YtjgbdkokcgcpjaaDoor
/- THE CELL 'sum', in the pinned program and in every row, IS THE sha256 OF THE DUMP (.gsa) THAT YtjgbdkokcgcpjaaDoorProg.lean LOADS. Nothing in Lean hashes anything: it is a label: what it is worth is what the hold of that sum in a sandbox is worth. -/
noncomputable def Tryd.pinned : Pinned := { name := "ytjgbdkokcgcpjaadoor", sum := "1cc018f2d9ae63ef47a8b1808774b2a526f6659e36662eff208c846bb6fd24fe", checked := Tryd.checked }
namespace Rows
def none {H : Type} : Left H := { results := [], args := [] }

/- WHAT THE LISTED PACKAGE-LEVEL VARIABLES READ AS WHEN THE CALL BEGINS. Each datum BY PROGRAM (the guide's laid-datum.mjs) off the statement by which the dump's own 'gosem.cut.vars' lays the variable. In a bare row this is a premise. The card (YtjgbdkokcgcpjaaDoorCards.lean) ties it to the program's text. -/
def laid_unicode_utf8_acceptRanges {H : Type} : DataW H := .agg [.agg [.lit (.int .u8 128), .lit (.int .u8 191)], .agg [.lit (.int .u8 160), .lit (.int .u8 191)], .agg [.lit (.int .u8 128), .lit (.int .u8 159)], .agg [.lit (.int .u8 144), .lit (.int .u8 191)], .agg [.lit (.int .u8 128), .lit (.int .u8 143)], .agg [.lit (.int .u8 0), .lit (.int .u8 0)], .agg [.lit (.int .u8 0), .lit (.int .u8 0)], .agg [.lit (.int .u8 0), .lit (.int .u8 0)], .agg [.lit (.int .u8 0), .lit (.int .u8 0)], .agg [.lit (.int .u8 0), .lit (.int .u8 0)], .agg [.lit (.int .u8 0), .lit (.int .u8 0)], .agg [.lit (.int .u8 0), .lit (.int .u8 0)], .agg [.lit (.int .u8 0), .lit (.int .u8 0)], .agg [.lit (.int .u8 0), .lit (.int .u8 0)], .agg [.lit (.int .u8 0), .lit (.int .u8 0)], .agg [.lit (.int .u8 0), .lit (.int .u8 0)]]
/-- One of Go's own tables, pinned by name: the form's constant. -/
def laid_unicode_utf8_first : DataW Unit := Go.Pinned.utf8First

/-- 'tidewracklaw10.SeriesMerges': WHATEVER THE INPUT: true; the input reads as it did. -/
def seriesMergesSpec : ChangeSpec := { name := "seriesMerges", fn := fun _ => fun
  | [d1, d2, d3] => { results := [.lit (.bool true)], args := [d1, d2, d3] }
  | _ => none }
def seriesMergesRow : OpenClaim := { program := "ytjgbdkokcgcpjaadoor", sum := "1cc018f2d9ae63ef47a8b1808774b2a526f6659e36662eff208c846bb6fd24fe", func := "tidewrack/tidewracklaw10.SeriesMerges", spec := "seriesMerges", inPlace := ["internal/bytealg.abigen_runtime_cmpstring", "internal/bytealg.IndexByteString", "internal/bytealg.IndexString", "internal/bytealg.CountString"], unfollowed := true, recurses := true, named := ["internal/bytealg.MaxLen", "unicode/utf8.first", "unicode/utf8.acceptRanges"], apart := false, laid := [("unicode/utf8.acceptRanges", laid_unicode_utf8_acceptRanges), ("unicode/utf8.first", laid_unicode_utf8_first)] }
def SeriesMergesSaid : Prop := seriesMergesRow.holds Tryd.pinned (OpenSpec.ofChange seriesMergesSpec)

/-- ITS FALSE NEIGHBOUR: 'it returns false'. Refute it at one input. -/
def seriesMergesWrong : ChangeSpec := { name := "seriesMerges", fn := fun _ => fun
  | [d1, d2, d3] => { results := [.lit (.bool false)], args := [d1, d2, d3] }
  | _ => none }
def SeriesMergesWrongFalsely : Prop := seriesMergesRow.holds Tryd.pinned (OpenSpec.ofChange seriesMergesWrong)

/-- 'tidewracklaw10.SeriesParts': WHATEVER THE INPUT: true; the input reads as it did. -/
def seriesPartsSpec : ChangeSpec := { name := "seriesParts", fn := fun _ => fun
  | [d1, d2, d3, d4, d5] => { results := [.lit (.bool true)], args := [d1, d2, d3, d4, d5] }
  | _ => none }
def seriesPartsRow : OpenClaim := { program := "ytjgbdkokcgcpjaadoor", sum := "1cc018f2d9ae63ef47a8b1808774b2a526f6659e36662eff208c846bb6fd24fe", func := "tidewrack/tidewracklaw10.SeriesParts", spec := "seriesParts", inPlace := ["internal/bytealg.abigen_runtime_cmpstring", "internal/bytealg.IndexByteString", "internal/bytealg.IndexString", "internal/bytealg.CountString"], unfollowed := true, recurses := true, named := ["internal/bytealg.MaxLen", "unicode/utf8.first", "unicode/utf8.acceptRanges"], apart := false, laid := [("unicode/utf8.acceptRanges", laid_unicode_utf8_acceptRanges), ("unicode/utf8.first", laid_unicode_utf8_first)] }
def SeriesPartsSaid : Prop := seriesPartsRow.holds Tryd.pinned (OpenSpec.ofChange seriesPartsSpec)

/-- ITS FALSE NEIGHBOUR: 'it returns false'. Refute it at one input. -/
def seriesPartsWrong : ChangeSpec := { name := "seriesParts", fn := fun _ => fun
  | [d1, d2, d3, d4, d5] => { results := [.lit (.bool false)], args := [d1, d2, d3, d4, d5] }
  | _ => none }
def SeriesPartsWrongFalsely : Prop := seriesPartsRow.holds Tryd.pinned (OpenSpec.ofChange seriesPartsWrong)

/-- 'tidewracklaw10.SeriesOrder': WHATEVER THE INPUT: true; the input reads as it did. -/
def seriesOrderSpec : ChangeSpec := { name := "seriesOrder", fn := fun _ => fun
  | [d1, d2, d3] => { results := [.lit (.bool true)], args := [d1, d2, d3] }
  | _ => none }
def seriesOrderRow : OpenClaim := { program := "ytjgbdkokcgcpjaadoor", sum := "1cc018f2d9ae63ef47a8b1808774b2a526f6659e36662eff208c846bb6fd24fe", func := "tidewrack/tidewracklaw10.SeriesOrder", spec := "seriesOrder", inPlace := ["internal/bytealg.abigen_runtime_cmpstring", "internal/bytealg.IndexByteString", "internal/bytealg.IndexString", "internal/bytealg.CountString"], unfollowed := true, recurses := true, named := ["internal/bytealg.MaxLen", "unicode/utf8.first", "unicode/utf8.acceptRanges"], apart := false, laid := [("unicode/utf8.acceptRanges", laid_unicode_utf8_acceptRanges), ("unicode/utf8.first", laid_unicode_utf8_first)] }
def SeriesOrderSaid : Prop := seriesOrderRow.holds Tryd.pinned (OpenSpec.ofChange seriesOrderSpec)

/-- ITS FALSE NEIGHBOUR: 'it returns false'. Refute it at one input. -/
def seriesOrderWrong : ChangeSpec := { name := "seriesOrder", fn := fun _ => fun
  | [d1, d2, d3] => { results := [.lit (.bool false)], args := [d1, d2, d3] }
  | _ => none }
def SeriesOrderWrongFalsely : Prop := seriesOrderRow.holds Tryd.pinned (OpenSpec.ofChange seriesOrderWrong)

/-- 'tidewracklaw10.SeriesGreatest': WHATEVER THE INPUT: true; the input reads as it did. -/
def seriesGreatestSpec : ChangeSpec := { name := "seriesGreatest", fn := fun _ => fun
  | [d1, d2] => { results := [.lit (.bool true)], args := [d1, d2] }
  | _ => none }
def seriesGreatestRow : OpenClaim := { program := "ytjgbdkokcgcpjaadoor", sum := "1cc018f2d9ae63ef47a8b1808774b2a526f6659e36662eff208c846bb6fd24fe", func := "tidewrack/tidewracklaw10.SeriesGreatest", spec := "seriesGreatest", inPlace := ["internal/bytealg.abigen_runtime_cmpstring", "internal/bytealg.IndexByteString", "internal/bytealg.IndexString", "internal/bytealg.CountString"], unfollowed := true, recurses := true, named := ["internal/bytealg.MaxLen", "unicode/utf8.first", "unicode/utf8.acceptRanges"], apart := false, laid := [("unicode/utf8.acceptRanges", laid_unicode_utf8_acceptRanges), ("unicode/utf8.first", laid_unicode_utf8_first)] }
def SeriesGreatestSaid : Prop := seriesGreatestRow.holds Tryd.pinned (OpenSpec.ofChange seriesGreatestSpec)

/-- ITS FALSE NEIGHBOUR: 'it returns false'. Refute it at one input. -/
def seriesGreatestWrong : ChangeSpec := { name := "seriesGreatest", fn := fun _ => fun
  | [d1, d2] => { results := [.lit (.bool false)], args := [d1, d2] }
  | _ => none }
def SeriesGreatestWrongFalsely : Prop := seriesGreatestRow.holds Tryd.pinned (OpenSpec.ofChange seriesGreatestWrong)

/-- 'tidewracklaw10.SeriesApart': WHATEVER THE INPUT: true; the input reads as it did. -/
def seriesApartSpec : ChangeSpec := { name := "seriesApart", fn := fun _ => fun
  | [d1, d2, d3, d4, d5] => { results := [.lit (.bool true)], args := [d1, d2, d3, d4, d5] }
  | _ => none }
def seriesApartRow : OpenClaim := { program := "ytjgbdkokcgcpjaadoor", sum := "1cc018f2d9ae63ef47a8b1808774b2a526f6659e36662eff208c846bb6fd24fe", func := "tidewrack/tidewracklaw10.SeriesApart", spec := "seriesApart", inPlace := ["internal/bytealg.abigen_runtime_cmpstring", "internal/bytealg.IndexByteString", "internal/bytealg.IndexString", "internal/bytealg.CountString"], unfollowed := true, recurses := true, named := ["internal/bytealg.MaxLen", "unicode/utf8.first", "unicode/utf8.acceptRanges"], apart := false, laid := [("unicode/utf8.acceptRanges", laid_unicode_utf8_acceptRanges), ("unicode/utf8.first", laid_unicode_utf8_first)] }
def SeriesApartSaid : Prop := seriesApartRow.holds Tryd.pinned (OpenSpec.ofChange seriesApartSpec)

/-- ITS FALSE NEIGHBOUR: 'it returns false'. Refute it at one input. -/
def seriesApartWrong : ChangeSpec := { name := "seriesApart", fn := fun _ => fun
  | [d1, d2, d3, d4, d5] => { results := [.lit (.bool false)], args := [d1, d2, d3, d4, d5] }
  | _ => none }
def SeriesApartWrongFalsely : Prop := seriesApartRow.holds Tryd.pinned (OpenSpec.ofChange seriesApartWrong)

/-- 'tidewracklaw10.SeriesCovers': WHATEVER THE INPUT: true; the input reads as it did. -/
def seriesCoversSpec : ChangeSpec := { name := "seriesCovers", fn := fun _ => fun
  | [d1, d2, d3, d4] => { results := [.lit (.bool true)], args := [d1, d2, d3, d4] }
  | _ => none }
def seriesCoversRow : OpenClaim := { program := "ytjgbdkokcgcpjaadoor", sum := "1cc018f2d9ae63ef47a8b1808774b2a526f6659e36662eff208c846bb6fd24fe", func := "tidewrack/tidewracklaw10.SeriesCovers", spec := "seriesCovers", inPlace := ["internal/bytealg.abigen_runtime_cmpstring", "internal/bytealg.IndexByteString", "internal/bytealg.IndexString", "internal/bytealg.CountString"], unfollowed := true, recurses := true, named := ["internal/bytealg.MaxLen", "unicode/utf8.first", "unicode/utf8.acceptRanges"], apart := false, laid := [("unicode/utf8.acceptRanges", laid_unicode_utf8_acceptRanges), ("unicode/utf8.first", laid_unicode_utf8_first)] }
def SeriesCoversSaid : Prop := seriesCoversRow.holds Tryd.pinned (OpenSpec.ofChange seriesCoversSpec)

/-- ITS FALSE NEIGHBOUR: 'it returns false'. Refute it at one input. -/
def seriesCoversWrong : ChangeSpec := { name := "seriesCovers", fn := fun _ => fun
  | [d1, d2, d3, d4] => { results := [.lit (.bool false)], args := [d1, d2, d3, d4] }
  | _ => none }
def SeriesCoversWrongFalsely : Prop := seriesCoversRow.holds Tryd.pinned (OpenSpec.ofChange seriesCoversWrong)

/- THE SECOND FORM. 'bulk': how many values and letters a reading holds, each counted each time it is reached (what is shared counts as often as it is met; a slice's spare places count too). A statement '..UptoSaid' is the law's where the arguments, and the package variables that the reading takes, are together of bulk at most 1048576: NARROWER than '..Said'. Prove '..Said' where nothing that the law and all that it calls make is longer than what came in: it says more and counts as full. Else prove '..UptoSaid'. A law counts once. -/
mutual
def uptoBulk {H : Type} : DataW H → Nat
  | .lit (.string bytes) => bytes.length + 1
  | .lit _ => 1
  | .nil => 1
  | .ptr d => uptoBulk d + 1
  | .slice elems spare => uptoBulkAll elems + uptoBulkAll spare + 1
  | .agg parts => uptoBulkAll parts + 1
  | .iface _ d => uptoBulk d + 1
  | .map entries => uptoBulkEntries entries + 1
  | .held _ => 1
def uptoBulkAll {H : Type} : List (DataW H) → Nat
  | [] => 0
  | d :: r => uptoBulk d + uptoBulkAll r
def uptoBulkEntries {H : Type} : List (Lit × DataW H) → Nat
  | [] => 0
  | x :: r => uptoBulkEntry x + uptoBulkEntries r
def uptoBulkEntry {H : Type} : Lit × DataW H → Nat
  | (.string bytes, d) => bytes.length + uptoBulk d + 1
  | (_, d) => uptoBulk d + 1
 end
def uptoSmall : (H : Type) → List (DataW H) → Bool := fun _ ds => decide (uptoBulkAll ds ≤ 1048576)
def OpenSpec.upto (s : _root_.Go.ChangeSpec) : _root_.Go.OpenSpec := { _root_.Go.OpenSpec.ofChange s with cond := some uptoSmall }

/-- 'tidewracklaw10.SeriesMerges', WHERE WHAT IT READS IS OF BULK AT MOST 1048576: true; the input reads as it did. -/
def seriesMergesUptoRow : OpenClaim := { program := "ytjgbdkokcgcpjaadoor", sum := "1cc018f2d9ae63ef47a8b1808774b2a526f6659e36662eff208c846bb6fd24fe", func := "tidewrack/tidewracklaw10.SeriesMerges", spec := "seriesMerges", inPlace := ["internal/bytealg.abigen_runtime_cmpstring", "internal/bytealg.IndexByteString", "internal/bytealg.IndexString", "internal/bytealg.CountString"], unfollowed := true, recurses := true, named := ["internal/bytealg.MaxLen", "unicode/utf8.first", "unicode/utf8.acceptRanges"], apart := false, laid := [("unicode/utf8.acceptRanges", laid_unicode_utf8_acceptRanges), ("unicode/utf8.first", laid_unicode_utf8_first)], narrowed := true }
def SeriesMergesUptoSaid : Prop := seriesMergesUptoRow.holds Tryd.pinned (OpenSpec.upto seriesMergesSpec)

/-- 'tidewracklaw10.SeriesParts', WHERE WHAT IT READS IS OF BULK AT MOST 1048576: true; the input reads as it did. -/
def seriesPartsUptoRow : OpenClaim := { program := "ytjgbdkokcgcpjaadoor", sum := "1cc018f2d9ae63ef47a8b1808774b2a526f6659e36662eff208c846bb6fd24fe", func := "tidewrack/tidewracklaw10.SeriesParts", spec := "seriesParts", inPlace := ["internal/bytealg.abigen_runtime_cmpstring", "internal/bytealg.IndexByteString", "internal/bytealg.IndexString", "internal/bytealg.CountString"], unfollowed := true, recurses := true, named := ["internal/bytealg.MaxLen", "unicode/utf8.first", "unicode/utf8.acceptRanges"], apart := false, laid := [("unicode/utf8.acceptRanges", laid_unicode_utf8_acceptRanges), ("unicode/utf8.first", laid_unicode_utf8_first)], narrowed := true }
def SeriesPartsUptoSaid : Prop := seriesPartsUptoRow.holds Tryd.pinned (OpenSpec.upto seriesPartsSpec)

/-- 'tidewracklaw10.SeriesOrder', WHERE WHAT IT READS IS OF BULK AT MOST 1048576: true; the input reads as it did. -/
def seriesOrderUptoRow : OpenClaim := { program := "ytjgbdkokcgcpjaadoor", sum := "1cc018f2d9ae63ef47a8b1808774b2a526f6659e36662eff208c846bb6fd24fe", func := "tidewrack/tidewracklaw10.SeriesOrder", spec := "seriesOrder", inPlace := ["internal/bytealg.abigen_runtime_cmpstring", "internal/bytealg.IndexByteString", "internal/bytealg.IndexString", "internal/bytealg.CountString"], unfollowed := true, recurses := true, named := ["internal/bytealg.MaxLen", "unicode/utf8.first", "unicode/utf8.acceptRanges"], apart := false, laid := [("unicode/utf8.acceptRanges", laid_unicode_utf8_acceptRanges), ("unicode/utf8.first", laid_unicode_utf8_first)], narrowed := true }
def SeriesOrderUptoSaid : Prop := seriesOrderUptoRow.holds Tryd.pinned (OpenSpec.upto seriesOrderSpec)

/-- 'tidewracklaw10.SeriesGreatest', WHERE WHAT IT READS IS OF BULK AT MOST 1048576: true; the input reads as it did. -/
def seriesGreatestUptoRow : OpenClaim := { program := "ytjgbdkokcgcpjaadoor", sum := "1cc018f2d9ae63ef47a8b1808774b2a526f6659e36662eff208c846bb6fd24fe", func := "tidewrack/tidewracklaw10.SeriesGreatest", spec := "seriesGreatest", inPlace := ["internal/bytealg.abigen_runtime_cmpstring", "internal/bytealg.IndexByteString", "internal/bytealg.IndexString", "internal/bytealg.CountString"], unfollowed := true, recurses := true, named := ["internal/bytealg.MaxLen", "unicode/utf8.first", "unicode/utf8.acceptRanges"], apart := false, laid := [("unicode/utf8.acceptRanges", laid_unicode_utf8_acceptRanges), ("unicode/utf8.first", laid_unicode_utf8_first)], narrowed := true }
def SeriesGreatestUptoSaid : Prop := seriesGreatestUptoRow.holds Tryd.pinned (OpenSpec.upto seriesGreatestSpec)

/-- 'tidewracklaw10.SeriesApart', WHERE WHAT IT READS IS OF BULK AT MOST 1048576: true; the input reads as it did. -/
def seriesApartUptoRow : OpenClaim := { program := "ytjgbdkokcgcpjaadoor", sum := "1cc018f2d9ae63ef47a8b1808774b2a526f6659e36662eff208c846bb6fd24fe", func := "tidewrack/tidewracklaw10.SeriesApart", spec := "seriesApart", inPlace := ["internal/bytealg.abigen_runtime_cmpstring", "internal/bytealg.IndexByteString", "internal/bytealg.IndexString", "internal/bytealg.CountString"], unfollowed := true, recurses := true, named := ["internal/bytealg.MaxLen", "unicode/utf8.first", "unicode/utf8.acceptRanges"], apart := false, laid := [("unicode/utf8.acceptRanges", laid_unicode_utf8_acceptRanges), ("unicode/utf8.first", laid_unicode_utf8_first)], narrowed := true }
def SeriesApartUptoSaid : Prop := seriesApartUptoRow.holds Tryd.pinned (OpenSpec.upto seriesApartSpec)

/-- 'tidewracklaw10.SeriesCovers', WHERE WHAT IT READS IS OF BULK AT MOST 1048576: true; the input reads as it did. -/
def seriesCoversUptoRow : OpenClaim := { program := "ytjgbdkokcgcpjaadoor", sum := "1cc018f2d9ae63ef47a8b1808774b2a526f6659e36662eff208c846bb6fd24fe", func := "tidewrack/tidewracklaw10.SeriesCovers", spec := "seriesCovers", inPlace := ["internal/bytealg.abigen_runtime_cmpstring", "internal/bytealg.IndexByteString", "internal/bytealg.IndexString", "internal/bytealg.CountString"], unfollowed := true, recurses := true, named := ["internal/bytealg.MaxLen", "unicode/utf8.first", "unicode/utf8.acceptRanges"], apart := false, laid := [("unicode/utf8.acceptRanges", laid_unicode_utf8_acceptRanges), ("unicode/utf8.first", laid_unicode_utf8_first)], narrowed := true }
def SeriesCoversUptoSaid : Prop := seriesCoversUptoRow.holds Tryd.pinned (OpenSpec.upto seriesCoversSpec)

end Rows
end Go.Proofs.YtjgbdkokcgcpjaaDoor
