/-
  No cell of these rows narrows 'for every input' (looked for: loops, veiled, ifaces, maps, wideKeys, modest, calm, conditions, laid).
  DERIVED. THE GIVEN ROWS OF THIS SEAT. 5 by the template 'for every input the law returns true; each argument reads behind the call as it read before'; 0 by the template 'total and deterministic' (their statements: YtjoaonppaokhhaaGreatTotals.lean).
  GIVEN WITH THE SEED: the statements are not yours to turn. If you find one false, say at which input.
  Laid BY PROGRAM, IN A SANDBOX (cutbox-rows.mjs): the forced cells as the released guide's own fill.sh prints them over the translation b3fc019053cc378a… (all of the seat's roots in one cut). By AI agents, Wed Nov 11 2026. No macro, syntax, notation, axiom, sorry.
-/
import Derived.Test.YtjoaonppaokhhaaGreatChecked
import GoSem.Claim
import GoSem.ClaimJoined
import GoSem.ClaimMapViews
import Derived.JoinedTies
import Derived.KernelRfl
namespace Go.Proofs.YtjoaonppaokhhaaGreat
/- THE CELL 'sum', in the pinned program and in every row, IS THE sha256 OF THE DUMP (.gsa) THAT YtjoaonppaokhhaaGreatProg.lean LOADS. Nothing in Lean hashes anything: it is a label: what it is worth is what the hold of that sum in a sandbox is worth. -/
noncomputable def Tryz.pinned : Pinned := { name := "ytjoaonppaokhhaagreat", sum := "b3fc019053cc378ad836e06d46c5cb4faaa34a702fb6a28f0971482deb727b62", checked := Tryz.checked }
namespace Rows
def none {H : Type} : Left H := { results := [], args := [] }

/-- 'tidewracklaw14.IndexChanges': WHATEVER THE INPUT: true; the input reads as it did. -/
def indexChangesSpec : ChangeSpec := { name := "indexChanges", fn := fun _ => fun
  | [d1, d2, d3, d4] => { results := [.lit (.bool true)], args := [d1, d2, d3, d4] }
  | _ => none }
def indexChangesRow : OpenClaim := { program := "ytjoaonppaokhhaagreat", sum := "b3fc019053cc378ad836e06d46c5cb4faaa34a702fb6a28f0971482deb727b62", func := "tidewrack/tidewracklaw14.IndexChanges", spec := "indexChanges", inPlace := ["slices.overlaps[tidewrack/api.Entry]"], unfollowed := true, recurses := true, apart := false }
def IndexChangesSaid : Prop := indexChangesRow.holds Tryz.pinned (OpenSpec.ofChange indexChangesSpec)

/-- ITS FALSE NEIGHBOUR: 'it returns false'. Refute it at one input. -/
def indexChangesWrong : ChangeSpec := { name := "indexChanges", fn := fun _ => fun
  | [d1, d2, d3, d4] => { results := [.lit (.bool false)], args := [d1, d2, d3, d4] }
  | _ => none }
def IndexChangesWrongFalsely : Prop := indexChangesRow.holds Tryz.pinned (OpenSpec.ofChange indexChangesWrong)

/-- 'tidewracklaw14.IndexBytes': WHATEVER THE INPUT: true; the input reads as it did. -/
def indexBytesSpec : ChangeSpec := { name := "indexBytes", fn := fun _ => fun
  | [d1, d2] => { results := [.lit (.bool true)], args := [d1, d2] }
  | _ => none }
def indexBytesRow : OpenClaim := { program := "ytjoaonppaokhhaagreat", sum := "b3fc019053cc378ad836e06d46c5cb4faaa34a702fb6a28f0971482deb727b62", func := "tidewrack/tidewracklaw14.IndexBytes", spec := "indexBytes", inPlace := ["slices.overlaps[tidewrack/api.Entry]"], unfollowed := true, recurses := true, apart := false }
def IndexBytesSaid : Prop := indexBytesRow.holds Tryz.pinned (OpenSpec.ofChange indexBytesSpec)

/-- ITS FALSE NEIGHBOUR: 'it returns false'. Refute it at one input. -/
def indexBytesWrong : ChangeSpec := { name := "indexBytes", fn := fun _ => fun
  | [d1, d2] => { results := [.lit (.bool false)], args := [d1, d2] }
  | _ => none }
def IndexBytesWrongFalsely : Prop := indexBytesRow.holds Tryz.pinned (OpenSpec.ofChange indexBytesWrong)

/-- 'tidewracklaw14.IndexCovers': WHATEVER THE INPUT: true; the input reads as it did. -/
def indexCoversSpec : ChangeSpec := { name := "indexCovers", fn := fun _ => fun
  | [d1, d2, d3, d4, d5] => { results := [.lit (.bool true)], args := [d1, d2, d3, d4, d5] }
  | _ => none }
def indexCoversRow : OpenClaim := { program := "ytjoaonppaokhhaagreat", sum := "b3fc019053cc378ad836e06d46c5cb4faaa34a702fb6a28f0971482deb727b62", func := "tidewrack/tidewracklaw14.IndexCovers", spec := "indexCovers", inPlace := ["slices.overlaps[tidewrack/api.Entry]"], unfollowed := true, recurses := true, apart := false }
def IndexCoversSaid : Prop := indexCoversRow.holds Tryz.pinned (OpenSpec.ofChange indexCoversSpec)

/-- ITS FALSE NEIGHBOUR: 'it returns false'. Refute it at one input. -/
def indexCoversWrong : ChangeSpec := { name := "indexCovers", fn := fun _ => fun
  | [d1, d2, d3, d4, d5] => { results := [.lit (.bool false)], args := [d1, d2, d3, d4, d5] }
  | _ => none }
def IndexCoversWrongFalsely : Prop := indexCoversRow.holds Tryz.pinned (OpenSpec.ofChange indexCoversWrong)

/-- 'tidewracklaw14.IndexPlans': WHATEVER THE INPUT: true; the input reads as it did. -/
def indexPlansSpec : ChangeSpec := { name := "indexPlans", fn := fun _ => fun
  | [d1, d2] => { results := [.lit (.bool true)], args := [d1, d2] }
  | _ => none }
def indexPlansRow : OpenClaim := { program := "ytjoaonppaokhhaagreat", sum := "b3fc019053cc378ad836e06d46c5cb4faaa34a702fb6a28f0971482deb727b62", func := "tidewrack/tidewracklaw14.IndexPlans", spec := "indexPlans", inPlace := ["slices.overlaps[tidewrack/api.Entry]"], unfollowed := true, recurses := true, apart := false }
def IndexPlansSaid : Prop := indexPlansRow.holds Tryz.pinned (OpenSpec.ofChange indexPlansSpec)

/-- ITS FALSE NEIGHBOUR: 'it returns false'. Refute it at one input. -/
def indexPlansWrong : ChangeSpec := { name := "indexPlans", fn := fun _ => fun
  | [d1, d2] => { results := [.lit (.bool false)], args := [d1, d2] }
  | _ => none }
def IndexPlansWrongFalsely : Prop := indexPlansRow.holds Tryz.pinned (OpenSpec.ofChange indexPlansWrong)

/-- 'tidewracklaw14.IndexEnds': WHATEVER THE INPUT: true; the input reads as it did. -/
def indexEndsSpec : ChangeSpec := { name := "indexEnds", fn := fun _ => fun
  | [d1, d2] => { results := [.lit (.bool true)], args := [d1, d2] }
  | _ => none }
def indexEndsRow : OpenClaim := { program := "ytjoaonppaokhhaagreat", sum := "b3fc019053cc378ad836e06d46c5cb4faaa34a702fb6a28f0971482deb727b62", func := "tidewrack/tidewracklaw14.IndexEnds", spec := "indexEnds", inPlace := ["slices.overlaps[tidewrack/api.Entry]"], unfollowed := true, recurses := true, apart := false }
def IndexEndsSaid : Prop := indexEndsRow.holds Tryz.pinned (OpenSpec.ofChange indexEndsSpec)

/-- ITS FALSE NEIGHBOUR: 'it returns false'. Refute it at one input. -/
def indexEndsWrong : ChangeSpec := { name := "indexEnds", fn := fun _ => fun
  | [d1, d2] => { results := [.lit (.bool false)], args := [d1, d2] }
  | _ => none }
def IndexEndsWrongFalsely : Prop := indexEndsRow.holds Tryz.pinned (OpenSpec.ofChange indexEndsWrong)

/- THE SECOND FORM. 'bulk': how many values and letters a reading holds, each counted each time it is reached (what is shared counts as often as it is met; a slice's spare places count too). A statement '..UptoSaid' is the law's where the arguments, and the package variables that the reading takes, are together of bulk at most 1048576: NARROWER than '..Said'. Prove '..Said' where nothing that the law and all that it calls make is longer than what came in: it says more and counts as full. Else prove '..UptoSaid'. A law counts once. -/
mutual
def uptoBulk {H : Type} : DataW H → Nat
  | .lit (.string bytes) => bytes.length + 1
  | .lit _ => 1
  | .nil => 1
  | .ptr d => uptoBulk d + 1
  | .slice elems spare => uptoBulkAll elems + uptoBulkAll spare + 1
  | .agg parts => uptoBulkAll parts + 1
  | .iface _ d => uptoBulk d + 1
  | .map entries => uptoBulkEntries entries + 1
  | .held _ => 1
def uptoBulkAll {H : Type} : List (DataW H) → Nat
  | [] => 0
  | d :: r => uptoBulk d + uptoBulkAll r
def uptoBulkEntries {H : Type} : List (Lit × DataW H) → Nat
  | [] => 0
  | x :: r => uptoBulkEntry x + uptoBulkEntries r
def uptoBulkEntry {H : Type} : Lit × DataW H → Nat
  | (.string bytes, d) => bytes.length + uptoBulk d + 1
  | (_, d) => uptoBulk d + 1
 end
def uptoSmall : (H : Type) → List (DataW H) → Bool := fun _ ds => decide (uptoBulkAll ds ≤ 1048576)
def OpenSpec.upto (s : _root_.Go.ChangeSpec) : _root_.Go.OpenSpec := { _root_.Go.OpenSpec.ofChange s with cond := some uptoSmall }

/-- 'tidewracklaw14.IndexChanges', WHERE WHAT IT READS IS OF BULK AT MOST 1048576: true; the input reads as it did. -/
def indexChangesUptoRow : OpenClaim := { program := "ytjoaonppaokhhaagreat", sum := "b3fc019053cc378ad836e06d46c5cb4faaa34a702fb6a28f0971482deb727b62", func := "tidewrack/tidewracklaw14.IndexChanges", spec := "indexChanges", inPlace := ["slices.overlaps[tidewrack/api.Entry]"], unfollowed := true, recurses := true, apart := false, narrowed := true }
def IndexChangesUptoSaid : Prop := indexChangesUptoRow.holds Tryz.pinned (OpenSpec.upto indexChangesSpec)

/-- 'tidewracklaw14.IndexBytes', WHERE WHAT IT READS IS OF BULK AT MOST 1048576: true; the input reads as it did. -/
def indexBytesUptoRow : OpenClaim := { program := "ytjoaonppaokhhaagreat", sum := "b3fc019053cc378ad836e06d46c5cb4faaa34a702fb6a28f0971482deb727b62", func := "tidewrack/tidewracklaw14.IndexBytes", spec := "indexBytes", inPlace := ["slices.overlaps[tidewrack/api.Entry]"], unfollowed := true, recurses := true, apart := false, narrowed := true }
def IndexBytesUptoSaid : Prop := indexBytesUptoRow.holds Tryz.pinned (OpenSpec.upto indexBytesSpec)

/-- 'tidewracklaw14.IndexCovers', WHERE WHAT IT READS IS OF BULK AT MOST 1048576: true; the input reads as it did. -/
def indexCoversUptoRow : OpenClaim := { program := "ytjoaonppaokhhaagreat", sum := "b3fc019053cc378ad836e06d46c5cb4faaa34a702fb6a28f0971482deb727b62", func := "tidewrack/tidewracklaw14.IndexCovers", spec := "indexCovers", inPlace := ["slices.overlaps[tidewrack/api.Entry]"], unfollowed := true, recurses := true, apart := false, narrowed := true }
def IndexCoversUptoSaid : Prop := indexCoversUptoRow.holds Tryz.pinned (OpenSpec.upto indexCoversSpec)

/-- 'tidewracklaw14.IndexPlans', WHERE WHAT IT READS IS OF BULK AT MOST 1048576: true; the input reads as it did. -/
def indexPlansUptoRow : OpenClaim := { program := "ytjoaonppaokhhaagreat", sum := "b3fc019053cc378ad836e06d46c5cb4faaa34a702fb6a28f0971482deb727b62", func := "tidewrack/tidewracklaw14.IndexPlans", spec := "indexPlans", inPlace := ["slices.overlaps[tidewrack/api.Entry]"], unfollowed := true, recurses := true, apart := false, narrowed := true }
def IndexPlansUptoSaid : Prop := indexPlansUptoRow.holds Tryz.pinned (OpenSpec.upto indexPlansSpec)

/-- 'tidewracklaw14.IndexEnds', WHERE WHAT IT READS IS OF BULK AT MOST 1048576: true; the input reads as it did. -/
def indexEndsUptoRow : OpenClaim := { program := "ytjoaonppaokhhaagreat", sum := "b3fc019053cc378ad836e06d46c5cb4faaa34a702fb6a28f0971482deb727b62", func := "tidewrack/tidewracklaw14.IndexEnds", spec := "indexEnds", inPlace := ["slices.overlaps[tidewrack/api.Entry]"], unfollowed := true, recurses := true, apart := false, narrowed := true }
def IndexEndsUptoSaid : Prop := indexEndsUptoRow.holds Tryz.pinned (OpenSpec.upto indexEndsSpec)

end Rows
end Go.Proofs.YtjoaonppaokhhaaGreat
