/-
  No cell of these rows narrows 'for every input' (looked for: loops, veiled, ifaces, maps, wideKeys, modest, calm, conditions, laid).
  DERIVED. THE GIVEN ROWS OF THIS SEAT. 7 by the template 'for every input the law returns true; each argument reads behind the call as it read before'; 0 by the template 'total and deterministic' (their statements: YtlilnibinligkaaTotals.lean).
  GIVEN WITH THE SEED: the statements are not yours to turn. If you find one false, say at which input.
  Laid BY PROGRAM, IN A SANDBOX (cutbox-rows.mjs): the forced cells as the released guide's own fill.sh prints them over the translation 851fdf85cb2da7c8… (all of the seat's roots in one cut). By AI agents, Wed Nov 11 2026. No macro, syntax, notation, axiom, sorry.
-/
import Derived.Test.YtlilnibinligkaaChecked
import GoSem.Claim
import GoSem.ClaimJoined
import GoSem.ClaimMapViews
import Derived.JoinedTies
import Derived.KernelRfl
namespace Go.Proofs.Ytlilnibinligkaa
/- THE CELL 'sum', in the pinned program and in every row, IS THE sha256 OF THE DUMP (.gsa) THAT YtlilnibinligkaaProg.lean LOADS. Nothing in Lean hashes anything: it is a label: what it is worth is what the hold of that sum in a sandbox is worth. -/
noncomputable def Try.pinned : Pinned := { name := "ytlilnibinligkaa", sum := "851fdf85cb2da7c80f1e74441eba1554d708d1083ed516391c6234e24b695d1e", checked := Try.checked }
namespace Rows
def none {H : Type} : Left H := { results := [], args := [] }

/-- 'tidewracklaw5.ChunkEncodes': WHATEVER THE INPUT: true; the input reads as it did. -/
def chunkEncodesSpec : ChangeSpec := { name := "chunkEncodes", fn := fun _ => fun
  | [d] => { results := [.lit (.bool true)], args := [d] }
  | _ => none }
def chunkEncodesRow : OpenClaim := { program := "ytlilnibinligkaa", sum := "851fdf85cb2da7c80f1e74441eba1554d708d1083ed516391c6234e24b695d1e", func := "tidewrack/tidewracklaw5.ChunkEncodes", spec := "chunkEncodes", apart := false }
def ChunkEncodesSaid : Prop := chunkEncodesRow.holds Try.pinned (OpenSpec.ofChange chunkEncodesSpec)

/-- ITS FALSE NEIGHBOUR: 'it returns false'. Refute it at one input. -/
def chunkEncodesWrong : ChangeSpec := { name := "chunkEncodes", fn := fun _ => fun
  | [d] => { results := [.lit (.bool false)], args := [d] }
  | _ => none }
def ChunkEncodesWrongFalsely : Prop := chunkEncodesRow.holds Try.pinned (OpenSpec.ofChange chunkEncodesWrong)

/-- 'tidewracklaw5.ChunkDecodes': WHATEVER THE INPUT: true; the input reads as it did. -/
def chunkDecodesSpec : ChangeSpec := { name := "chunkDecodes", fn := fun _ => fun
  | [d] => { results := [.lit (.bool true)], args := [d] }
  | _ => none }
def chunkDecodesRow : OpenClaim := { program := "ytlilnibinligkaa", sum := "851fdf85cb2da7c80f1e74441eba1554d708d1083ed516391c6234e24b695d1e", func := "tidewrack/tidewracklaw5.ChunkDecodes", spec := "chunkDecodes", apart := false }
def ChunkDecodesSaid : Prop := chunkDecodesRow.holds Try.pinned (OpenSpec.ofChange chunkDecodesSpec)

/-- ITS FALSE NEIGHBOUR: 'it returns false'. Refute it at one input. -/
def chunkDecodesWrong : ChangeSpec := { name := "chunkDecodes", fn := fun _ => fun
  | [d] => { results := [.lit (.bool false)], args := [d] }
  | _ => none }
def ChunkDecodesWrongFalsely : Prop := chunkDecodesRow.holds Try.pinned (OpenSpec.ofChange chunkDecodesWrong)

/-- 'tidewracklaw5.ChunkBack': WHATEVER THE INPUT: true; the input reads as it did. -/
def chunkBackSpec : ChangeSpec := { name := "chunkBack", fn := fun _ => fun
  | [d1, d2, d3] => { results := [.lit (.bool true)], args := [d1, d2, d3] }
  | _ => none }
def chunkBackRow : OpenClaim := { program := "ytlilnibinligkaa", sum := "851fdf85cb2da7c80f1e74441eba1554d708d1083ed516391c6234e24b695d1e", func := "tidewrack/tidewracklaw5.ChunkBack", spec := "chunkBack", apart := false }
def ChunkBackSaid : Prop := chunkBackRow.holds Try.pinned (OpenSpec.ofChange chunkBackSpec)

/-- ITS FALSE NEIGHBOUR: 'it returns false'. Refute it at one input. -/
def chunkBackWrong : ChangeSpec := { name := "chunkBack", fn := fun _ => fun
  | [d1, d2, d3] => { results := [.lit (.bool false)], args := [d1, d2, d3] }
  | _ => none }
def ChunkBackWrongFalsely : Prop := chunkBackRow.holds Try.pinned (OpenSpec.ofChange chunkBackWrong)

/-- 'tidewracklaw5.ChunkStrict': WHATEVER THE INPUT: true; the input reads as it did. -/
def chunkStrictSpec : ChangeSpec := { name := "chunkStrict", fn := fun _ => fun
  | [d] => { results := [.lit (.bool true)], args := [d] }
  | _ => none }
def chunkStrictRow : OpenClaim := { program := "ytlilnibinligkaa", sum := "851fdf85cb2da7c80f1e74441eba1554d708d1083ed516391c6234e24b695d1e", func := "tidewrack/tidewracklaw5.ChunkStrict", spec := "chunkStrict", apart := false }
def ChunkStrictSaid : Prop := chunkStrictRow.holds Try.pinned (OpenSpec.ofChange chunkStrictSpec)

/-- ITS FALSE NEIGHBOUR: 'it returns false'. Refute it at one input. -/
def chunkStrictWrong : ChangeSpec := { name := "chunkStrict", fn := fun _ => fun
  | [d] => { results := [.lit (.bool false)], args := [d] }
  | _ => none }
def ChunkStrictWrongFalsely : Prop := chunkStrictRow.holds Try.pinned (OpenSpec.ofChange chunkStrictWrong)

/-- 'tidewracklaw5.ChunkCuts': WHATEVER THE INPUT: true; the input reads as it did. -/
def chunkCutsSpec : ChangeSpec := { name := "chunkCuts", fn := fun _ => fun
  | [d1, d2] => { results := [.lit (.bool true)], args := [d1, d2] }
  | _ => none }
def chunkCutsRow : OpenClaim := { program := "ytlilnibinligkaa", sum := "851fdf85cb2da7c80f1e74441eba1554d708d1083ed516391c6234e24b695d1e", func := "tidewrack/tidewracklaw5.ChunkCuts", spec := "chunkCuts", apart := false }
def ChunkCutsSaid : Prop := chunkCutsRow.holds Try.pinned (OpenSpec.ofChange chunkCutsSpec)

/-- ITS FALSE NEIGHBOUR: 'it returns false'. Refute it at one input. -/
def chunkCutsWrong : ChangeSpec := { name := "chunkCuts", fn := fun _ => fun
  | [d1, d2] => { results := [.lit (.bool false)], args := [d1, d2] }
  | _ => none }
def ChunkCutsWrongFalsely : Prop := chunkCutsRow.holds Try.pinned (OpenSpec.ofChange chunkCutsWrong)

/-- 'tidewracklaw5.ChunkEven': WHATEVER THE INPUT: true; the input reads as it did. -/
def chunkEvenSpec : ChangeSpec := { name := "chunkEven", fn := fun _ => fun
  | [d1, d2, d3, d4] => { results := [.lit (.bool true)], args := [d1, d2, d3, d4] }
  | _ => none }
def chunkEvenRow : OpenClaim := { program := "ytlilnibinligkaa", sum := "851fdf85cb2da7c80f1e74441eba1554d708d1083ed516391c6234e24b695d1e", func := "tidewrack/tidewracklaw5.ChunkEven", spec := "chunkEven", apart := false }
def ChunkEvenSaid : Prop := chunkEvenRow.holds Try.pinned (OpenSpec.ofChange chunkEvenSpec)

/-- ITS FALSE NEIGHBOUR: 'it returns false'. Refute it at one input. -/
def chunkEvenWrong : ChangeSpec := { name := "chunkEven", fn := fun _ => fun
  | [d1, d2, d3, d4] => { results := [.lit (.bool false)], args := [d1, d2, d3, d4] }
  | _ => none }
def ChunkEvenWrongFalsely : Prop := chunkEvenRow.holds Try.pinned (OpenSpec.ofChange chunkEvenWrong)

/-- 'tidewracklaw5.ChunkPrefix': WHATEVER THE INPUT: true; the input reads as it did. -/
def chunkPrefixSpec : ChangeSpec := { name := "chunkPrefix", fn := fun _ => fun
  | [d1, d2] => { results := [.lit (.bool true)], args := [d1, d2] }
  | _ => none }
def chunkPrefixRow : OpenClaim := { program := "ytlilnibinligkaa", sum := "851fdf85cb2da7c80f1e74441eba1554d708d1083ed516391c6234e24b695d1e", func := "tidewrack/tidewracklaw5.ChunkPrefix", spec := "chunkPrefix", apart := false }
def ChunkPrefixSaid : Prop := chunkPrefixRow.holds Try.pinned (OpenSpec.ofChange chunkPrefixSpec)

/-- ITS FALSE NEIGHBOUR: 'it returns false'. Refute it at one input. -/
def chunkPrefixWrong : ChangeSpec := { name := "chunkPrefix", fn := fun _ => fun
  | [d1, d2] => { results := [.lit (.bool false)], args := [d1, d2] }
  | _ => none }
def ChunkPrefixWrongFalsely : Prop := chunkPrefixRow.holds Try.pinned (OpenSpec.ofChange chunkPrefixWrong)

/- THE SECOND FORM. 'bulk': how many values and letters a reading holds, each counted each time it is reached (what is shared counts as often as it is met; a slice's spare places count too). A statement '..UptoSaid' is the law's where the arguments, and the package variables that the reading takes, are together of bulk at most 1048576: NARROWER than '..Said'. Prove '..Said' where nothing that the law and all that it calls make is longer than what came in: it says more and counts as full. Else prove '..UptoSaid'. A law counts once. -/
mutual
def uptoBulk {H : Type} : DataW H → Nat
  | .lit (.string bytes) => bytes.length + 1
  | .lit _ => 1
  | .nil => 1
  | .ptr d => uptoBulk d + 1
  | .slice elems spare => uptoBulkAll elems + uptoBulkAll spare + 1
  | .agg parts => uptoBulkAll parts + 1
  | .iface _ d => uptoBulk d + 1
  | .map entries => uptoBulkEntries entries + 1
  | .held _ => 1
def uptoBulkAll {H : Type} : List (DataW H) → Nat
  | [] => 0
  | d :: r => uptoBulk d + uptoBulkAll r
def uptoBulkEntries {H : Type} : List (Lit × DataW H) → Nat
  | [] => 0
  | x :: r => uptoBulkEntry x + uptoBulkEntries r
def uptoBulkEntry {H : Type} : Lit × DataW H → Nat
  | (.string bytes, d) => bytes.length + uptoBulk d + 1
  | (_, d) => uptoBulk d + 1
 end
def uptoSmall : (H : Type) → List (DataW H) → Bool := fun _ ds => decide (uptoBulkAll ds ≤ 1048576)
def OpenSpec.upto (s : _root_.Go.ChangeSpec) : _root_.Go.OpenSpec := { _root_.Go.OpenSpec.ofChange s with cond := some uptoSmall }

/-- 'tidewracklaw5.ChunkEncodes', WHERE WHAT IT READS IS OF BULK AT MOST 1048576: true; the input reads as it did. -/
def chunkEncodesUptoRow : OpenClaim := { program := "ytlilnibinligkaa", sum := "851fdf85cb2da7c80f1e74441eba1554d708d1083ed516391c6234e24b695d1e", func := "tidewrack/tidewracklaw5.ChunkEncodes", spec := "chunkEncodes", apart := false, narrowed := true }
def ChunkEncodesUptoSaid : Prop := chunkEncodesUptoRow.holds Try.pinned (OpenSpec.upto chunkEncodesSpec)

/-- 'tidewracklaw5.ChunkDecodes', WHERE WHAT IT READS IS OF BULK AT MOST 1048576: true; the input reads as it did. -/
def chunkDecodesUptoRow : OpenClaim := { program := "ytlilnibinligkaa", sum := "851fdf85cb2da7c80f1e74441eba1554d708d1083ed516391c6234e24b695d1e", func := "tidewrack/tidewracklaw5.ChunkDecodes", spec := "chunkDecodes", apart := false, narrowed := true }
def ChunkDecodesUptoSaid : Prop := chunkDecodesUptoRow.holds Try.pinned (OpenSpec.upto chunkDecodesSpec)

/-- 'tidewracklaw5.ChunkBack', WHERE WHAT IT READS IS OF BULK AT MOST 1048576: true; the input reads as it did. -/
def chunkBackUptoRow : OpenClaim := { program := "ytlilnibinligkaa", sum := "851fdf85cb2da7c80f1e74441eba1554d708d1083ed516391c6234e24b695d1e", func := "tidewrack/tidewracklaw5.ChunkBack", spec := "chunkBack", apart := false, narrowed := true }
def ChunkBackUptoSaid : Prop := chunkBackUptoRow.holds Try.pinned (OpenSpec.upto chunkBackSpec)

/-- 'tidewracklaw5.ChunkStrict', WHERE WHAT IT READS IS OF BULK AT MOST 1048576: true; the input reads as it did. -/
def chunkStrictUptoRow : OpenClaim := { program := "ytlilnibinligkaa", sum := "851fdf85cb2da7c80f1e74441eba1554d708d1083ed516391c6234e24b695d1e", func := "tidewrack/tidewracklaw5.ChunkStrict", spec := "chunkStrict", apart := false, narrowed := true }
def ChunkStrictUptoSaid : Prop := chunkStrictUptoRow.holds Try.pinned (OpenSpec.upto chunkStrictSpec)

/-- 'tidewracklaw5.ChunkCuts', WHERE WHAT IT READS IS OF BULK AT MOST 1048576: true; the input reads as it did. -/
def chunkCutsUptoRow : OpenClaim := { program := "ytlilnibinligkaa", sum := "851fdf85cb2da7c80f1e74441eba1554d708d1083ed516391c6234e24b695d1e", func := "tidewrack/tidewracklaw5.ChunkCuts", spec := "chunkCuts", apart := false, narrowed := true }
def ChunkCutsUptoSaid : Prop := chunkCutsUptoRow.holds Try.pinned (OpenSpec.upto chunkCutsSpec)

/-- 'tidewracklaw5.ChunkEven', WHERE WHAT IT READS IS OF BULK AT MOST 1048576: true; the input reads as it did. -/
def chunkEvenUptoRow : OpenClaim := { program := "ytlilnibinligkaa", sum := "851fdf85cb2da7c80f1e74441eba1554d708d1083ed516391c6234e24b695d1e", func := "tidewrack/tidewracklaw5.ChunkEven", spec := "chunkEven", apart := false, narrowed := true }
def ChunkEvenUptoSaid : Prop := chunkEvenUptoRow.holds Try.pinned (OpenSpec.upto chunkEvenSpec)

/-- 'tidewracklaw5.ChunkPrefix', WHERE WHAT IT READS IS OF BULK AT MOST 1048576: true; the input reads as it did. -/
def chunkPrefixUptoRow : OpenClaim := { program := "ytlilnibinligkaa", sum := "851fdf85cb2da7c80f1e74441eba1554d708d1083ed516391c6234e24b695d1e", func := "tidewrack/tidewracklaw5.ChunkPrefix", spec := "chunkPrefix", apart := false, narrowed := true }
def ChunkPrefixUptoSaid : Prop := chunkPrefixUptoRow.holds Try.pinned (OpenSpec.upto chunkPrefixSpec)

end Rows
end Go.Proofs.Ytlilnibinligkaa
