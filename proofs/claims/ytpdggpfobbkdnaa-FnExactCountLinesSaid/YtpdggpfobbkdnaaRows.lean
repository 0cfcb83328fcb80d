/-
  No cell of these rows narrows 'for every input' (looked for: loops, veiled, ifaces, maps, wideKeys, modest, calm, conditions, laid).
  DERIVED. THE GIVEN ROWS OF THIS SEAT. 11 by the template 'for every input the law returns true; each argument reads behind the call as it read before'; 0 by the template 'total and deterministic' (their statements: YtpdggpfobbkdnaaTotals.lean).
  GIVEN WITH THE SEED: the statements are not yours to turn. If you find one false, say at which input.
  Laid BY PROGRAM, IN A SANDBOX (cutbox-rows.mjs): the forced cells as the released guide's own fill.sh prints them over the translation 6bf2415f45df03bd… (all of the seat's roots in one cut). By AI agents, Wed Nov 11 2026. No macro, syntax, notation, axiom, sorry.
-/
import Derived.Test.YtpdggpfobbkdnaaChecked
import GoSem.Claim
import GoSem.ClaimJoined
import GoSem.ClaimMapViews
import Derived.JoinedTies
import Derived.KernelRfl
namespace Go.Proofs.Ytpdggpfobbkdnaa
/- THE CELL 'sum', in the pinned program and in every row, IS THE sha256 OF THE DUMP (.gsa) THAT YtpdggpfobbkdnaaProg.lean LOADS. Nothing in Lean hashes anything: it is a label: what it is worth is what the hold of that sum in a sandbox is worth. -/
noncomputable def Try.pinned : Pinned := { name := "ytpdggpfobbkdnaa", sum := "6bf2415f45df03bd0c738325c431817d9d0de241cd45db3955ed840859893bf7", checked := Try.checked }
namespace Rows
def none {H : Type} : Left H := { results := [], args := [] }

/-- 'laws.FnExactFindLines': WHATEVER THE INPUT: true; the input reads as it did. -/
def fnExactFindLinesSpec : ChangeSpec := { name := "fnExactFindLines", fn := fun _ => fun
  | [d1, d2] => { results := [.lit (.bool true)], args := [d1, d2] }
  | _ => none }
def fnExactFindLinesRow : OpenClaim := { program := "ytpdggpfobbkdnaa", sum := "6bf2415f45df03bd0c738325c431817d9d0de241cd45db3955ed840859893bf7", func := "loop.example/g01021/laws.FnExactFindLines", spec := "fnExactFindLines", inPlace := ["internal/bytealg.IndexByteString", "internal/bytealg.IndexString"], named := ["internal/bytealg.MaxLen"], apart := false }
def FnExactFindLinesSaid : Prop := fnExactFindLinesRow.holds Try.pinned (OpenSpec.ofChange fnExactFindLinesSpec)

/-- ITS FALSE NEIGHBOUR: 'it returns false'. Refute it at one input. -/
def fnExactFindLinesWrong : ChangeSpec := { name := "fnExactFindLines", fn := fun _ => fun
  | [d1, d2] => { results := [.lit (.bool false)], args := [d1, d2] }
  | _ => none }
def FnExactFindLinesWrongFalsely : Prop := fnExactFindLinesRow.holds Try.pinned (OpenSpec.ofChange fnExactFindLinesWrong)

/-- 'laws.FnExactValidBlocks': WHATEVER THE INPUT: true; the input reads as it did. -/
def fnExactValidBlocksSpec : ChangeSpec := { name := "fnExactValidBlocks", fn := fun _ => fun
  | [d] => { results := [.lit (.bool true)], args := [d] }
  | _ => none }
def fnExactValidBlocksRow : OpenClaim := { program := "ytpdggpfobbkdnaa", sum := "6bf2415f45df03bd0c738325c431817d9d0de241cd45db3955ed840859893bf7", func := "loop.example/g01021/laws.FnExactValidBlocks", spec := "fnExactValidBlocks", inPlace := ["internal/bytealg.IndexByteString", "internal/bytealg.IndexString"], named := ["internal/bytealg.MaxLen"], apart := false }
def FnExactValidBlocksSaid : Prop := fnExactValidBlocksRow.holds Try.pinned (OpenSpec.ofChange fnExactValidBlocksSpec)

/-- ITS FALSE NEIGHBOUR: 'it returns false'. Refute it at one input. -/
def fnExactValidBlocksWrong : ChangeSpec := { name := "fnExactValidBlocks", fn := fun _ => fun
  | [d] => { results := [.lit (.bool false)], args := [d] }
  | _ => none }
def FnExactValidBlocksWrongFalsely : Prop := fnExactValidBlocksRow.holds Try.pinned (OpenSpec.ofChange fnExactValidBlocksWrong)

/-- 'laws.FnExactBlockNamed': WHATEVER THE INPUT: true; the input reads as it did. -/
def fnExactBlockNamedSpec : ChangeSpec := { name := "fnExactBlockNamed", fn := fun _ => fun
  | [d1, d2, d3] => { results := [.lit (.bool true)], args := [d1, d2, d3] }
  | _ => none }
def fnExactBlockNamedRow : OpenClaim := { program := "ytpdggpfobbkdnaa", sum := "6bf2415f45df03bd0c738325c431817d9d0de241cd45db3955ed840859893bf7", func := "loop.example/g01021/laws.FnExactBlockNamed", spec := "fnExactBlockNamed", inPlace := ["internal/bytealg.IndexByteString", "internal/bytealg.IndexString"], unfollowed := true, recurses := true, named := ["internal/bytealg.MaxLen"], apart := false }
def FnExactBlockNamedSaid : Prop := fnExactBlockNamedRow.holds Try.pinned (OpenSpec.ofChange fnExactBlockNamedSpec)

/-- ITS FALSE NEIGHBOUR: 'it returns false'. Refute it at one input. -/
def fnExactBlockNamedWrong : ChangeSpec := { name := "fnExactBlockNamed", fn := fun _ => fun
  | [d1, d2, d3] => { results := [.lit (.bool false)], args := [d1, d2, d3] }
  | _ => none }
def FnExactBlockNamedWrongFalsely : Prop := fnExactBlockNamedRow.holds Try.pinned (OpenSpec.ofChange fnExactBlockNamedWrong)

/-- 'laws.FnExactBarLines': WHATEVER THE INPUT: true; the input reads as it did. -/
def fnExactBarLinesSpec : ChangeSpec := { name := "fnExactBarLines", fn := fun _ => fun
  | [d1, d2] => { results := [.lit (.bool true)], args := [d1, d2] }
  | _ => none }
def fnExactBarLinesRow : OpenClaim := { program := "ytpdggpfobbkdnaa", sum := "6bf2415f45df03bd0c738325c431817d9d0de241cd45db3955ed840859893bf7", func := "loop.example/g01021/laws.FnExactBarLines", spec := "fnExactBarLines", inPlace := ["internal/abi.NoEscape", "internal/bytealg.MakeNoZero"], unfollowed := true, recurses := true, apart := false }
def FnExactBarLinesSaid : Prop := fnExactBarLinesRow.holds Try.pinned (OpenSpec.ofChange fnExactBarLinesSpec)

/-- ITS FALSE NEIGHBOUR: 'it returns false'. Refute it at one input. -/
def fnExactBarLinesWrong : ChangeSpec := { name := "fnExactBarLines", fn := fun _ => fun
  | [d1, d2] => { results := [.lit (.bool false)], args := [d1, d2] }
  | _ => none }
def FnExactBarLinesWrongFalsely : Prop := fnExactBarLinesRow.holds Try.pinned (OpenSpec.ofChange fnExactBarLinesWrong)

/-- 'laws.FnExactBlocksOfKind': WHATEVER THE INPUT: true; the input reads as it did. -/
def fnExactBlocksOfKindSpec : ChangeSpec := { name := "fnExactBlocksOfKind", fn := fun _ => fun
  | [d1, d2] => { results := [.lit (.bool true)], args := [d1, d2] }
  | _ => none }
def fnExactBlocksOfKindRow : OpenClaim := { program := "ytpdggpfobbkdnaa", sum := "6bf2415f45df03bd0c738325c431817d9d0de241cd45db3955ed840859893bf7", func := "loop.example/g01021/laws.FnExactBlocksOfKind", spec := "fnExactBlocksOfKind", inPlace := ["internal/bytealg.IndexByteString", "internal/bytealg.IndexString"], named := ["internal/bytealg.MaxLen"], apart := false }
def FnExactBlocksOfKindSaid : Prop := fnExactBlocksOfKindRow.holds Try.pinned (OpenSpec.ofChange fnExactBlocksOfKindSpec)

/-- ITS FALSE NEIGHBOUR: 'it returns false'. Refute it at one input. -/
def fnExactBlocksOfKindWrong : ChangeSpec := { name := "fnExactBlocksOfKind", fn := fun _ => fun
  | [d1, d2] => { results := [.lit (.bool false)], args := [d1, d2] }
  | _ => none }
def FnExactBlocksOfKindWrongFalsely : Prop := fnExactBlocksOfKindRow.holds Try.pinned (OpenSpec.ofChange fnExactBlocksOfKindWrong)

/-- 'laws.FnExactDropBlock': WHATEVER THE INPUT: true; the input reads as it did. -/
def fnExactDropBlockSpec : ChangeSpec := { name := "fnExactDropBlock", fn := fun _ => fun
  | [d1, d2, d3] => { results := [.lit (.bool true)], args := [d1, d2, d3] }
  | _ => none }
def fnExactDropBlockRow : OpenClaim := { program := "ytpdggpfobbkdnaa", sum := "6bf2415f45df03bd0c738325c431817d9d0de241cd45db3955ed840859893bf7", func := "loop.example/g01021/laws.FnExactDropBlock", spec := "fnExactDropBlock", inPlace := ["internal/bytealg.IndexByteString", "internal/bytealg.IndexString"], unfollowed := true, recurses := true, named := ["internal/bytealg.MaxLen"], apart := false }
def FnExactDropBlockSaid : Prop := fnExactDropBlockRow.holds Try.pinned (OpenSpec.ofChange fnExactDropBlockSpec)

/-- ITS FALSE NEIGHBOUR: 'it returns false'. Refute it at one input. -/
def fnExactDropBlockWrong : ChangeSpec := { name := "fnExactDropBlock", fn := fun _ => fun
  | [d1, d2, d3] => { results := [.lit (.bool false)], args := [d1, d2, d3] }
  | _ => none }
def FnExactDropBlockWrongFalsely : Prop := fnExactDropBlockRow.holds Try.pinned (OpenSpec.ofChange fnExactDropBlockWrong)

/-- 'laws.FnPages': WHATEVER THE INPUT: true; the input reads as it did. -/
def fnPagesSpec : ChangeSpec := { name := "fnPages", fn := fun _ => fun
  | [d1, d2] => { results := [.lit (.bool true)], args := [d1, d2] }
  | _ => none }
def fnPagesRow : OpenClaim := { program := "ytpdggpfobbkdnaa", sum := "6bf2415f45df03bd0c738325c431817d9d0de241cd45db3955ed840859893bf7", func := "loop.example/g01021/laws.FnPages", spec := "fnPages", inPlace := ["internal/bytealg.IndexByteString", "internal/bytealg.IndexString", "internal/abi.NoEscape", "internal/bytealg.MakeNoZero"], unfollowed := true, recurses := true, named := ["internal/bytealg.MaxLen"], apart := false }
def FnPagesSaid : Prop := fnPagesRow.holds Try.pinned (OpenSpec.ofChange fnPagesSpec)

/-- ITS FALSE NEIGHBOUR: 'it returns false'. Refute it at one input. -/
def fnPagesWrong : ChangeSpec := { name := "fnPages", fn := fun _ => fun
  | [d1, d2] => { results := [.lit (.bool false)], args := [d1, d2] }
  | _ => none }
def FnPagesWrongFalsely : Prop := fnPagesRow.holds Try.pinned (OpenSpec.ofChange fnPagesWrong)

/-- 'laws.FnExactSortLines': WHATEVER THE INPUT: true; the input reads as it did. -/
def fnExactSortLinesSpec : ChangeSpec := { name := "fnExactSortLines", fn := fun _ => fun
  | [d] => { results := [.lit (.bool true)], args := [d] }
  | _ => none }
def fnExactSortLinesRow : OpenClaim := { program := "ytpdggpfobbkdnaa", sum := "6bf2415f45df03bd0c738325c431817d9d0de241cd45db3955ed840859893bf7", func := "loop.example/g01021/laws.FnExactSortLines", spec := "fnExactSortLines", unfollowed := true, recurses := true, apart := false }
def FnExactSortLinesSaid : Prop := fnExactSortLinesRow.holds Try.pinned (OpenSpec.ofChange fnExactSortLinesSpec)

/-- ITS FALSE NEIGHBOUR: 'it returns false'. Refute it at one input. -/
def fnExactSortLinesWrong : ChangeSpec := { name := "fnExactSortLines", fn := fun _ => fun
  | [d] => { results := [.lit (.bool false)], args := [d] }
  | _ => none }
def FnExactSortLinesWrongFalsely : Prop := fnExactSortLinesRow.holds Try.pinned (OpenSpec.ofChange fnExactSortLinesWrong)

/-- 'laws.FnExactPutBlock': WHATEVER THE INPUT: true; the input reads as it did. -/
def fnExactPutBlockSpec : ChangeSpec := { name := "fnExactPutBlock", fn := fun _ => fun
  | [d1, d2] => { results := [.lit (.bool true)], args := [d1, d2] }
  | _ => none }
def fnExactPutBlockRow : OpenClaim := { program := "ytpdggpfobbkdnaa", sum := "6bf2415f45df03bd0c738325c431817d9d0de241cd45db3955ed840859893bf7", func := "loop.example/g01021/laws.FnExactPutBlock", spec := "fnExactPutBlock", inPlace := ["internal/bytealg.IndexByteString", "internal/bytealg.IndexString", "slices.overlaps[loop.example/g01021/impl.Block]"], unfollowed := true, recurses := true, named := ["internal/bytealg.MaxLen"], apart := false }
def FnExactPutBlockSaid : Prop := fnExactPutBlockRow.holds Try.pinned (OpenSpec.ofChange fnExactPutBlockSpec)

/-- ITS FALSE NEIGHBOUR: 'it returns false'. Refute it at one input. -/
def fnExactPutBlockWrong : ChangeSpec := { name := "fnExactPutBlock", fn := fun _ => fun
  | [d1, d2] => { results := [.lit (.bool false)], args := [d1, d2] }
  | _ => none }
def FnExactPutBlockWrongFalsely : Prop := fnExactPutBlockRow.holds Try.pinned (OpenSpec.ofChange fnExactPutBlockWrong)

/-- 'laws.FnExactMergeBlocks': WHATEVER THE INPUT: true; the input reads as it did. -/
def fnExactMergeBlocksSpec : ChangeSpec := { name := "fnExactMergeBlocks", fn := fun _ => fun
  | [d1, d2] => { results := [.lit (.bool true)], args := [d1, d2] }
  | _ => none }
def fnExactMergeBlocksRow : OpenClaim := { program := "ytpdggpfobbkdnaa", sum := "6bf2415f45df03bd0c738325c431817d9d0de241cd45db3955ed840859893bf7", func := "loop.example/g01021/laws.FnExactMergeBlocks", spec := "fnExactMergeBlocks", inPlace := ["internal/bytealg.IndexByteString", "internal/bytealg.IndexString", "slices.overlaps[loop.example/g01021/impl.Block]"], unfollowed := true, recurses := true, named := ["internal/bytealg.MaxLen"], apart := false }
def FnExactMergeBlocksSaid : Prop := fnExactMergeBlocksRow.holds Try.pinned (OpenSpec.ofChange fnExactMergeBlocksSpec)

/-- ITS FALSE NEIGHBOUR: 'it returns false'. Refute it at one input. -/
def fnExactMergeBlocksWrong : ChangeSpec := { name := "fnExactMergeBlocks", fn := fun _ => fun
  | [d1, d2] => { results := [.lit (.bool false)], args := [d1, d2] }
  | _ => none }
def FnExactMergeBlocksWrongFalsely : Prop := fnExactMergeBlocksRow.holds Try.pinned (OpenSpec.ofChange fnExactMergeBlocksWrong)

/-- 'laws.FnExactCountLines': WHATEVER THE INPUT: true; the input reads as it did. -/
def fnExactCountLinesSpec : ChangeSpec := { name := "fnExactCountLines", fn := fun _ => fun
  | [d] => { results := [.lit (.bool true)], args := [d] }
  | _ => none }
def fnExactCountLinesRow : OpenClaim := { program := "ytpdggpfobbkdnaa", sum := "6bf2415f45df03bd0c738325c431817d9d0de241cd45db3955ed840859893bf7", func := "loop.example/g01021/laws.FnExactCountLines", spec := "fnExactCountLines", unfollowed := true, recurses := true, apart := false }
def FnExactCountLinesSaid : Prop := fnExactCountLinesRow.holds Try.pinned (OpenSpec.ofChange fnExactCountLinesSpec)

/-- ITS FALSE NEIGHBOUR: 'it returns false'. Refute it at one input. -/
def fnExactCountLinesWrong : ChangeSpec := { name := "fnExactCountLines", fn := fun _ => fun
  | [d] => { results := [.lit (.bool false)], args := [d] }
  | _ => none }
def FnExactCountLinesWrongFalsely : Prop := fnExactCountLinesRow.holds Try.pinned (OpenSpec.ofChange fnExactCountLinesWrong)

/- THE SECOND FORM. 'bulk': how many values and letters a reading holds, each counted each time it is reached (what is shared counts as often as it is met; a slice's spare places count too). A statement '..UptoSaid' is the law's where the arguments, and the package variables that the reading takes, are together of bulk at most 1048576: NARROWER than '..Said'. Prove '..Said' where nothing that the law and all that it calls make is longer than what came in: it says more and counts as full. Else prove '..UptoSaid'. A law counts once. -/
mutual
def uptoBulk {H : Type} : DataW H → Nat
  | .lit (.string bytes) => bytes.length + 1
  | .lit _ => 1
  | .nil => 1
  | .ptr d => uptoBulk d + 1
  | .slice elems spare => uptoBulkAll elems + uptoBulkAll spare + 1
  | .agg parts => uptoBulkAll parts + 1
  | .iface _ d => uptoBulk d + 1
  | .map entries => uptoBulkEntries entries + 1
  | .held _ => 1
def uptoBulkAll {H : Type} : List (DataW H) → Nat
  | [] => 0
  | d :: r => uptoBulk d + uptoBulkAll r
def uptoBulkEntries {H : Type} : List (Lit × DataW H) → Nat
  | [] => 0
  | x :: r => uptoBulkEntry x + uptoBulkEntries r
def uptoBulkEntry {H : Type} : Lit × DataW H → Nat
  | (.string bytes, d) => bytes.length + uptoBulk d + 1
  | (_, d) => uptoBulk d + 1
 end
def uptoSmall : (H : Type) → List (DataW H) → Bool := fun _ ds => decide (uptoBulkAll ds ≤ 1048576)
def OpenSpec.upto (s : _root_.Go.ChangeSpec) : _root_.Go.OpenSpec := { _root_.Go.OpenSpec.ofChange s with cond := some uptoSmall }

/-- 'laws.FnExactFindLines', WHERE WHAT IT READS IS OF BULK AT MOST 1048576: true; the input reads as it did. -/
def fnExactFindLinesUptoRow : OpenClaim := { program := "ytpdggpfobbkdnaa", sum := "6bf2415f45df03bd0c738325c431817d9d0de241cd45db3955ed840859893bf7", func := "loop.example/g01021/laws.FnExactFindLines", spec := "fnExactFindLines", inPlace := ["internal/bytealg.IndexByteString", "internal/bytealg.IndexString"], named := ["internal/bytealg.MaxLen"], apart := false, narrowed := true }
def FnExactFindLinesUptoSaid : Prop := fnExactFindLinesUptoRow.holds Try.pinned (OpenSpec.upto fnExactFindLinesSpec)

/-- 'laws.FnExactValidBlocks', WHERE WHAT IT READS IS OF BULK AT MOST 1048576: true; the input reads as it did. -/
def fnExactValidBlocksUptoRow : OpenClaim := { program := "ytpdggpfobbkdnaa", sum := "6bf2415f45df03bd0c738325c431817d9d0de241cd45db3955ed840859893bf7", func := "loop.example/g01021/laws.FnExactValidBlocks", spec := "fnExactValidBlocks", inPlace := ["internal/bytealg.IndexByteString", "internal/bytealg.IndexString"], named := ["internal/bytealg.MaxLen"], apart := false, narrowed := true }
def FnExactValidBlocksUptoSaid : Prop := fnExactValidBlocksUptoRow.holds Try.pinned (OpenSpec.upto fnExactValidBlocksSpec)

/-- 'laws.FnExactBlockNamed', WHERE WHAT IT READS IS OF BULK AT MOST 1048576: true; the input reads as it did. -/
def fnExactBlockNamedUptoRow : OpenClaim := { program := "ytpdggpfobbkdnaa", sum := "6bf2415f45df03bd0c738325c431817d9d0de241cd45db3955ed840859893bf7", func := "loop.example/g01021/laws.FnExactBlockNamed", spec := "fnExactBlockNamed", inPlace := ["internal/bytealg.IndexByteString", "internal/bytealg.IndexString"], unfollowed := true, recurses := true, named := ["internal/bytealg.MaxLen"], apart := false, narrowed := true }
def FnExactBlockNamedUptoSaid : Prop := fnExactBlockNamedUptoRow.holds Try.pinned (OpenSpec.upto fnExactBlockNamedSpec)

/-- 'laws.FnExactBarLines', WHERE WHAT IT READS IS OF BULK AT MOST 1048576: true; the input reads as it did. -/
def fnExactBarLinesUptoRow : OpenClaim := { program := "ytpdggpfobbkdnaa", sum := "6bf2415f45df03bd0c738325c431817d9d0de241cd45db3955ed840859893bf7", func := "loop.example/g01021/laws.FnExactBarLines", spec := "fnExactBarLines", inPlace := ["internal/abi.NoEscape", "internal/bytealg.MakeNoZero"], unfollowed := true, recurses := true, apart := false, narrowed := true }
def FnExactBarLinesUptoSaid : Prop := fnExactBarLinesUptoRow.holds Try.pinned (OpenSpec.upto fnExactBarLinesSpec)

/-- 'laws.FnExactBlocksOfKind', WHERE WHAT IT READS IS OF BULK AT MOST 1048576: true; the input reads as it did. -/
def fnExactBlocksOfKindUptoRow : OpenClaim := { program := "ytpdggpfobbkdnaa", sum := "6bf2415f45df03bd0c738325c431817d9d0de241cd45db3955ed840859893bf7", func := "loop.example/g01021/laws.FnExactBlocksOfKind", spec := "fnExactBlocksOfKind", inPlace := ["internal/bytealg.IndexByteString", "internal/bytealg.IndexString"], named := ["internal/bytealg.MaxLen"], apart := false, narrowed := true }
def FnExactBlocksOfKindUptoSaid : Prop := fnExactBlocksOfKindUptoRow.holds Try.pinned (OpenSpec.upto fnExactBlocksOfKindSpec)

/-- 'laws.FnExactDropBlock', WHERE WHAT IT READS IS OF BULK AT MOST 1048576: true; the input reads as it did. -/
def fnExactDropBlockUptoRow : OpenClaim := { program := "ytpdggpfobbkdnaa", sum := "6bf2415f45df03bd0c738325c431817d9d0de241cd45db3955ed840859893bf7", func := "loop.example/g01021/laws.FnExactDropBlock", spec := "fnExactDropBlock", inPlace := ["internal/bytealg.IndexByteString", "internal/bytealg.IndexString"], unfollowed := true, recurses := true, named := ["internal/bytealg.MaxLen"], apart := false, narrowed := true }
def FnExactDropBlockUptoSaid : Prop := fnExactDropBlockUptoRow.holds Try.pinned (OpenSpec.upto fnExactDropBlockSpec)

/-- 'laws.FnPages', WHERE WHAT IT READS IS OF BULK AT MOST 1048576: true; the input reads as it did. -/
def fnPagesUptoRow : OpenClaim := { program := "ytpdggpfobbkdnaa", sum := "6bf2415f45df03bd0c738325c431817d9d0de241cd45db3955ed840859893bf7", func := "loop.example/g01021/laws.FnPages", spec := "fnPages", inPlace := ["internal/bytealg.IndexByteString", "internal/bytealg.IndexString", "internal/abi.NoEscape", "internal/bytealg.MakeNoZero"], unfollowed := true, recurses := true, named := ["internal/bytealg.MaxLen"], apart := false, narrowed := true }
def FnPagesUptoSaid : Prop := fnPagesUptoRow.holds Try.pinned (OpenSpec.upto fnPagesSpec)

/-- 'laws.FnExactSortLines', WHERE WHAT IT READS IS OF BULK AT MOST 1048576: true; the input reads as it did. -/
def fnExactSortLinesUptoRow : OpenClaim := { program := "ytpdggpfobbkdnaa", sum := "6bf2415f45df03bd0c738325c431817d9d0de241cd45db3955ed840859893bf7", func := "loop.example/g01021/laws.FnExactSortLines", spec := "fnExactSortLines", unfollowed := true, recurses := true, apart := false, narrowed := true }
def FnExactSortLinesUptoSaid : Prop := fnExactSortLinesUptoRow.holds Try.pinned (OpenSpec.upto fnExactSortLinesSpec)

/-- 'laws.FnExactPutBlock', WHERE WHAT IT READS IS OF BULK AT MOST 1048576: true; the input reads as it did. -/
def fnExactPutBlockUptoRow : OpenClaim := { program := "ytpdggpfobbkdnaa", sum := "6bf2415f45df03bd0c738325c431817d9d0de241cd45db3955ed840859893bf7", func := "loop.example/g01021/laws.FnExactPutBlock", spec := "fnExactPutBlock", inPlace := ["internal/bytealg.IndexByteString", "internal/bytealg.IndexString", "slices.overlaps[loop.example/g01021/impl.Block]"], unfollowed := true, recurses := true, named := ["internal/bytealg.MaxLen"], apart := false, narrowed := true }
def FnExactPutBlockUptoSaid : Prop := fnExactPutBlockUptoRow.holds Try.pinned (OpenSpec.upto fnExactPutBlockSpec)

/-- 'laws.FnExactMergeBlocks', WHERE WHAT IT READS IS OF BULK AT MOST 1048576: true; the input reads as it did. -/
def fnExactMergeBlocksUptoRow : OpenClaim := { program := "ytpdggpfobbkdnaa", sum := "6bf2415f45df03bd0c738325c431817d9d0de241cd45db3955ed840859893bf7", func := "loop.example/g01021/laws.FnExactMergeBlocks", spec := "fnExactMergeBlocks", inPlace := ["internal/bytealg.IndexByteString", "internal/bytealg.IndexString", "slices.overlaps[loop.example/g01021/impl.Block]"], unfollowed := true, recurses := true, named := ["internal/bytealg.MaxLen"], apart := false, narrowed := true }
def FnExactMergeBlocksUptoSaid : Prop := fnExactMergeBlocksUptoRow.holds Try.pinned (OpenSpec.upto fnExactMergeBlocksSpec)

/-- 'laws.FnExactCountLines', WHERE WHAT IT READS IS OF BULK AT MOST 1048576: true; the input reads as it did. -/
def fnExactCountLinesUptoRow : OpenClaim := { program := "ytpdggpfobbkdnaa", sum := "6bf2415f45df03bd0c738325c431817d9d0de241cd45db3955ed840859893bf7", func := "loop.example/g01021/laws.FnExactCountLines", spec := "fnExactCountLines", unfollowed := true, recurses := true, apart := false, narrowed := true }
def FnExactCountLinesUptoSaid : Prop := fnExactCountLinesUptoRow.holds Try.pinned (OpenSpec.upto fnExactCountLinesSpec)

end Rows
end Go.Proofs.Ytpdggpfobbkdnaa
