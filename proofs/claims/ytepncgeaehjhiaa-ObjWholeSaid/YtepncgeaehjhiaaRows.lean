/-
  No cell of these rows narrows 'for every input' (looked for: loops, veiled, ifaces, maps, wideKeys, modest, calm, conditions, laid).
  DERIVED. THE GIVEN ROWS OF THIS SEAT. 4 by the template 'for every input the law returns true; each argument reads behind the call as it read before'; 0 by the template 'total and deterministic' (their statements: YtepncgeaehjhiaaTotals.lean).
  GIVEN WITH THE SEED: the statements are not yours to turn. If you find one false, say at which input.
  Laid BY PROGRAM, IN A SANDBOX (cutbox-rows.mjs): the forced cells as the released guide's own fill.sh prints them over the translation 6308a8ad2b391327… (all of the seat's roots in one cut). By AI agents, Wed Nov 11 2026. No macro, syntax, notation, axiom, sorry.
-/
import Derived.Test.YtepncgeaehjhiaaChecked
import GoSem.Claim
import GoSem.ClaimJoined
import GoSem.ClaimMapViews
import Derived.JoinedTies
import Derived.KernelRfl
namespace Go.Proofs.Ytepncgeaehjhiaa
/- THE CELL 'sum', in the pinned program and in every row, IS THE sha256 OF THE DUMP (.gsa) THAT YtepncgeaehjhiaaProg.lean LOADS. Nothing in Lean hashes anything: it is a label: what it is worth is what the hold of that sum in a sandbox is worth. -/
noncomputable def Try.pinned : Pinned := { name := "ytepncgeaehjhiaa", sum := "6308a8ad2b39132742d8712a2579ff717aa01ead96ed8d9ce9b1d3f0ed963756", checked := Try.checked }
namespace Rows
def none {H : Type} : Left H := { results := [], args := [] }

/-- 'tidewracklaw11.ObjIfs': WHATEVER THE INPUT: true; the input reads as it did. -/
def objIfsSpec : ChangeSpec := { name := "objIfs", fn := fun _ => fun
  | [d1, d2] => { results := [.lit (.bool true)], args := [d1, d2] }
  | _ => none }
def objIfsRow : OpenClaim := { program := "ytepncgeaehjhiaa", sum := "6308a8ad2b39132742d8712a2579ff717aa01ead96ed8d9ce9b1d3f0ed963756", func := "tidewrack/tidewracklaw11.ObjIfs", spec := "objIfs", unfollowed := true, recurses := true, apart := false }
def ObjIfsSaid : Prop := objIfsRow.holds Try.pinned (OpenSpec.ofChange objIfsSpec)

/-- ITS FALSE NEIGHBOUR: 'it returns false'. Refute it at one input. -/
def objIfsWrong : ChangeSpec := { name := "objIfs", fn := fun _ => fun
  | [d1, d2] => { results := [.lit (.bool false)], args := [d1, d2] }
  | _ => none }
def ObjIfsWrongFalsely : Prop := objIfsRow.holds Try.pinned (OpenSpec.ofChange objIfsWrong)

/-- 'tidewracklaw11.ObjKeys': WHATEVER THE INPUT: true; the input reads as it did. -/
def objKeysSpec : ChangeSpec := { name := "objKeys", fn := fun _ => fun
  | [d1, d2, d3] => { results := [.lit (.bool true)], args := [d1, d2, d3] }
  | _ => none }
def objKeysRow : OpenClaim := { program := "ytepncgeaehjhiaa", sum := "6308a8ad2b39132742d8712a2579ff717aa01ead96ed8d9ce9b1d3f0ed963756", func := "tidewrack/tidewracklaw11.ObjKeys", spec := "objKeys", unfollowed := true, recurses := true, apart := false }
def ObjKeysSaid : Prop := objKeysRow.holds Try.pinned (OpenSpec.ofChange objKeysSpec)

/-- ITS FALSE NEIGHBOUR: 'it returns false'. Refute it at one input. -/
def objKeysWrong : ChangeSpec := { name := "objKeys", fn := fun _ => fun
  | [d1, d2, d3] => { results := [.lit (.bool false)], args := [d1, d2, d3] }
  | _ => none }
def ObjKeysWrongFalsely : Prop := objKeysRow.holds Try.pinned (OpenSpec.ofChange objKeysWrong)

/-- 'tidewracklaw11.ObjSlices': WHATEVER THE INPUT: true; the input reads as it did. -/
def objSlicesSpec : ChangeSpec := { name := "objSlices", fn := fun _ => fun
  | [d1, d2, d3] => { results := [.lit (.bool true)], args := [d1, d2, d3] }
  | _ => none }
def objSlicesRow : OpenClaim := { program := "ytepncgeaehjhiaa", sum := "6308a8ad2b39132742d8712a2579ff717aa01ead96ed8d9ce9b1d3f0ed963756", func := "tidewrack/tidewracklaw11.ObjSlices", spec := "objSlices", unfollowed := true, recurses := true, apart := false }
def ObjSlicesSaid : Prop := objSlicesRow.holds Try.pinned (OpenSpec.ofChange objSlicesSpec)

/-- ITS FALSE NEIGHBOUR: 'it returns false'. Refute it at one input. -/
def objSlicesWrong : ChangeSpec := { name := "objSlices", fn := fun _ => fun
  | [d1, d2, d3] => { results := [.lit (.bool false)], args := [d1, d2, d3] }
  | _ => none }
def ObjSlicesWrongFalsely : Prop := objSlicesRow.holds Try.pinned (OpenSpec.ofChange objSlicesWrong)

/-- 'tidewracklaw11.ObjWhole': WHATEVER THE INPUT: true; the input reads as it did. -/
def objWholeSpec : ChangeSpec := { name := "objWhole", fn := fun _ => fun
  | [d1, d2, d3, d4, d5] => { results := [.lit (.bool true)], args := [d1, d2, d3, d4, d5] }
  | _ => none }
def objWholeRow : OpenClaim := { program := "ytepncgeaehjhiaa", sum := "6308a8ad2b39132742d8712a2579ff717aa01ead96ed8d9ce9b1d3f0ed963756", func := "tidewrack/tidewracklaw11.ObjWhole", spec := "objWhole", unfollowed := true, recurses := true, apart := false }
def ObjWholeSaid : Prop := objWholeRow.holds Try.pinned (OpenSpec.ofChange objWholeSpec)

/-- ITS FALSE NEIGHBOUR: 'it returns false'. Refute it at one input. -/
def objWholeWrong : ChangeSpec := { name := "objWhole", fn := fun _ => fun
  | [d1, d2, d3, d4, d5] => { results := [.lit (.bool false)], args := [d1, d2, d3, d4, d5] }
  | _ => none }
def ObjWholeWrongFalsely : Prop := objWholeRow.holds Try.pinned (OpenSpec.ofChange objWholeWrong)

/- THE SECOND FORM. 'bulk': how many values and letters a reading holds, each counted each time it is reached (what is shared counts as often as it is met; a slice's spare places count too). A statement '..UptoSaid' is the law's where the arguments, and the package variables that the reading takes, are together of bulk at most 1048576: NARROWER than '..Said'. Prove '..Said' where nothing that the law and all that it calls make is longer than what came in: it says more and counts as full. Else prove '..UptoSaid'. A law counts once. -/
mutual
def uptoBulk {H : Type} : DataW H → Nat
  | .lit (.string bytes) => bytes.length + 1
  | .lit _ => 1
  | .nil => 1
  | .ptr d => uptoBulk d + 1
  | .slice elems spare => uptoBulkAll elems + uptoBulkAll spare + 1
  | .agg parts => uptoBulkAll parts + 1
  | .iface _ d => uptoBulk d + 1
  | .map entries => uptoBulkEntries entries + 1
  | .held _ => 1
def uptoBulkAll {H : Type} : List (DataW H) → Nat
  | [] => 0
  | d :: r => uptoBulk d + uptoBulkAll r
def uptoBulkEntries {H : Type} : List (Lit × DataW H) → Nat
  | [] => 0
  | x :: r => uptoBulkEntry x + uptoBulkEntries r
def uptoBulkEntry {H : Type} : Lit × DataW H → Nat
  | (.string bytes, d) => bytes.length + uptoBulk d + 1
  | (_, d) => uptoBulk d + 1
 end
def uptoSmall : (H : Type) → List (DataW H) → Bool := fun _ ds => decide (uptoBulkAll ds ≤ 1048576)
def OpenSpec.upto (s : _root_.Go.ChangeSpec) : _root_.Go.OpenSpec := { _root_.Go.OpenSpec.ofChange s with cond := some uptoSmall }

/-- 'tidewracklaw11.ObjIfs', WHERE WHAT IT READS IS OF BULK AT MOST 1048576: true; the input reads as it did. -/
def objIfsUptoRow : OpenClaim := { program := "ytepncgeaehjhiaa", sum := "6308a8ad2b39132742d8712a2579ff717aa01ead96ed8d9ce9b1d3f0ed963756", func := "tidewrack/tidewracklaw11.ObjIfs", spec := "objIfs", unfollowed := true, recurses := true, apart := false, narrowed := true }
def ObjIfsUptoSaid : Prop := objIfsUptoRow.holds Try.pinned (OpenSpec.upto objIfsSpec)

/-- 'tidewracklaw11.ObjKeys', WHERE WHAT IT READS IS OF BULK AT MOST 1048576: true; the input reads as it did. -/
def objKeysUptoRow : OpenClaim := { program := "ytepncgeaehjhiaa", sum := "6308a8ad2b39132742d8712a2579ff717aa01ead96ed8d9ce9b1d3f0ed963756", func := "tidewrack/tidewracklaw11.ObjKeys", spec := "objKeys", unfollowed := true, recurses := true, apart := false, narrowed := true }
def ObjKeysUptoSaid : Prop := objKeysUptoRow.holds Try.pinned (OpenSpec.upto objKeysSpec)

/-- 'tidewracklaw11.ObjSlices', WHERE WHAT IT READS IS OF BULK AT MOST 1048576: true; the input reads as it did. -/
def objSlicesUptoRow : OpenClaim := { program := "ytepncgeaehjhiaa", sum := "6308a8ad2b39132742d8712a2579ff717aa01ead96ed8d9ce9b1d3f0ed963756", func := "tidewrack/tidewracklaw11.ObjSlices", spec := "objSlices", unfollowed := true, recurses := true, apart := false, narrowed := true }
def ObjSlicesUptoSaid : Prop := objSlicesUptoRow.holds Try.pinned (OpenSpec.upto objSlicesSpec)

/-- 'tidewracklaw11.ObjWhole', WHERE WHAT IT READS IS OF BULK AT MOST 1048576: true; the input reads as it did. -/
def objWholeUptoRow : OpenClaim := { program := "ytepncgeaehjhiaa", sum := "6308a8ad2b39132742d8712a2579ff717aa01ead96ed8d9ce9b1d3f0ed963756", func := "tidewrack/tidewracklaw11.ObjWhole", spec := "objWhole", unfollowed := true, recurses := true, apart := false, narrowed := true }
def ObjWholeUptoSaid : Prop := objWholeUptoRow.holds Try.pinned (OpenSpec.upto objWholeSpec)

end Rows
end Go.Proofs.Ytepncgeaehjhiaa
