/-
  No cell of these rows narrows 'for every input' (looked for: loops, veiled, ifaces, maps, wideKeys, modest, calm, conditions, laid).
  DERIVED. THE GIVEN ROWS OF THIS SEAT. 12 by the template 'for every input the law returns true; each argument reads behind the call as it read before'; 0 by the template 'total and deterministic' (their statements: YtfikbjbijpbdkaaTotals.lean).
  GIVEN WITH THE SEED: the statements are not yours to turn. If you find one false, say at which input.
  Laid BY PROGRAM, IN A SANDBOX (cutbox-rows.mjs): the forced cells as the released guide's own fill.sh prints them over the translation f99f1fc8082cb70c… (all of the seat's roots in one cut). By AI agents, Wed Nov 11 2026. No macro, syntax, notation, axiom, sorry.
-/
import Derived.Test.YtfikbjbijpbdkaaChecked
import GoSem.Claim
import GoSem.ClaimJoined
import GoSem.ClaimMapViews
import Derived.JoinedTies
import Derived.KernelRfl
namespace Go.Proofs.Ytfikbjbijpbdkaa
/- THE CELL 'sum', in the pinned program and in every row, IS THE sha256 OF THE DUMP (.gsa) THAT YtfikbjbijpbdkaaProg.lean LOADS. Nothing in Lean hashes anything: it is a label: what it is worth is what the hold of that sum in a sandbox is worth. -/
noncomputable def Try.pinned : Pinned := { name := "ytfikbjbijpbdkaa", sum := "f99f1fc8082cb70c873ff7bd8b4c77de123dfd144cc2a22d11b1c7e15babb6f7", checked := Try.checked }
namespace Rows
def none {H : Type} : Left H := { results := [], args := [] }

/-- 'laws.FnNumbers': WHATEVER THE INPUT: true; the input reads as it did. -/
def fnNumbersSpec : ChangeSpec := { name := "fnNumbers", fn := fun _ => fun
  | [d] => { results := [.lit (.bool true)], args := [d] }
  | _ => none }
def fnNumbersRow : OpenClaim := { program := "ytfikbjbijpbdkaa", sum := "f99f1fc8082cb70c873ff7bd8b4c77de123dfd144cc2a22d11b1c7e15babb6f7", func := "loop.example/g00399/laws.FnNumbers", spec := "fnNumbers", recurses := true, apart := false }
def FnNumbersSaid : Prop := fnNumbersRow.holds Try.pinned (OpenSpec.ofChange fnNumbersSpec)

/-- ITS FALSE NEIGHBOUR: 'it returns false'. Refute it at one input. -/
def fnNumbersWrong : ChangeSpec := { name := "fnNumbers", fn := fun _ => fun
  | [d] => { results := [.lit (.bool false)], args := [d] }
  | _ => none }
def FnNumbersWrongFalsely : Prop := fnNumbersRow.holds Try.pinned (OpenSpec.ofChange fnNumbersWrong)

/-- 'laws.FnExactMetaNew': WHATEVER THE INPUT: true; the input reads as it did. -/
def fnExactMetaNewSpec : ChangeSpec := { name := "fnExactMetaNew", fn := fun _ => fun
  | [d] => { results := [.lit (.bool true)], args := [d] }
  | _ => none }
def fnExactMetaNewRow : OpenClaim := { program := "ytfikbjbijpbdkaa", sum := "f99f1fc8082cb70c873ff7bd8b4c77de123dfd144cc2a22d11b1c7e15babb6f7", func := "loop.example/g00399/laws.FnExactMetaNew", spec := "fnExactMetaNew", unfollowed := true, recurses := true, apart := false }
def FnExactMetaNewSaid : Prop := fnExactMetaNewRow.holds Try.pinned (OpenSpec.ofChange fnExactMetaNewSpec)

/-- ITS FALSE NEIGHBOUR: 'it returns false'. Refute it at one input. -/
def fnExactMetaNewWrong : ChangeSpec := { name := "fnExactMetaNew", fn := fun _ => fun
  | [d] => { results := [.lit (.bool false)], args := [d] }
  | _ => none }
def FnExactMetaNewWrongFalsely : Prop := fnExactMetaNewRow.holds Try.pinned (OpenSpec.ofChange fnExactMetaNewWrong)

/-- 'laws.FnExactMark': WHATEVER THE INPUT: true; the input reads as it did. -/
def fnExactMarkSpec : ChangeSpec := { name := "fnExactMark", fn := fun _ => fun
  | [d1, d2] => { results := [.lit (.bool true)], args := [d1, d2] }
  | _ => none }
def fnExactMarkRow : OpenClaim := { program := "ytfikbjbijpbdkaa", sum := "f99f1fc8082cb70c873ff7bd8b4c77de123dfd144cc2a22d11b1c7e15babb6f7", func := "loop.example/g00399/laws.FnExactMark", spec := "fnExactMark", inPlace := ["slices.overlaps[int]"], unfollowed := true, recurses := true, apart := false }
def FnExactMarkSaid : Prop := fnExactMarkRow.holds Try.pinned (OpenSpec.ofChange fnExactMarkSpec)

/-- ITS FALSE NEIGHBOUR: 'it returns false'. Refute it at one input. -/
def fnExactMarkWrong : ChangeSpec := { name := "fnExactMark", fn := fun _ => fun
  | [d1, d2] => { results := [.lit (.bool false)], args := [d1, d2] }
  | _ => none }
def FnExactMarkWrongFalsely : Prop := fnExactMarkRow.holds Try.pinned (OpenSpec.ofChange fnExactMarkWrong)

/-- 'laws.FnSqueezed': WHATEVER THE INPUT: true; the input reads as it did. -/
def fnSqueezedSpec : ChangeSpec := { name := "fnSqueezed", fn := fun _ => fun
  | [d] => { results := [.lit (.bool true)], args := [d] }
  | _ => none }
def fnSqueezedRow : OpenClaim := { program := "ytfikbjbijpbdkaa", sum := "f99f1fc8082cb70c873ff7bd8b4c77de123dfd144cc2a22d11b1c7e15babb6f7", func := "loop.example/g00399/laws.FnSqueezed", spec := "fnSqueezed", apart := false }
def FnSqueezedSaid : Prop := fnSqueezedRow.holds Try.pinned (OpenSpec.ofChange fnSqueezedSpec)

/-- ITS FALSE NEIGHBOUR: 'it returns false'. Refute it at one input. -/
def fnSqueezedWrong : ChangeSpec := { name := "fnSqueezed", fn := fun _ => fun
  | [d] => { results := [.lit (.bool false)], args := [d] }
  | _ => none }
def FnSqueezedWrongFalsely : Prop := fnSqueezedRow.holds Try.pinned (OpenSpec.ofChange fnSqueezedWrong)

/-- 'laws.FnExactMsgBytes': WHATEVER THE INPUT: true; the input reads as it did. -/
def fnExactMsgBytesSpec : ChangeSpec := { name := "fnExactMsgBytes", fn := fun _ => fun
  | [d] => { results := [.lit (.bool true)], args := [d] }
  | _ => none }
def fnExactMsgBytesRow : OpenClaim := { program := "ytfikbjbijpbdkaa", sum := "f99f1fc8082cb70c873ff7bd8b4c77de123dfd144cc2a22d11b1c7e15babb6f7", func := "loop.example/g00399/laws.FnExactMsgBytes", spec := "fnExactMsgBytes", apart := false }
def FnExactMsgBytesSaid : Prop := fnExactMsgBytesRow.holds Try.pinned (OpenSpec.ofChange fnExactMsgBytesSpec)

/-- ITS FALSE NEIGHBOUR: 'it returns false'. Refute it at one input. -/
def fnExactMsgBytesWrong : ChangeSpec := { name := "fnExactMsgBytes", fn := fun _ => fun
  | [d] => { results := [.lit (.bool false)], args := [d] }
  | _ => none }
def FnExactMsgBytesWrongFalsely : Prop := fnExactMsgBytesRow.holds Try.pinned (OpenSpec.ofChange fnExactMsgBytesWrong)

/-- 'laws.FnExactUnion': WHATEVER THE INPUT: true; the input reads as it did. -/
def fnExactUnionSpec : ChangeSpec := { name := "fnExactUnion", fn := fun _ => fun
  | [d1, d2] => { results := [.lit (.bool true)], args := [d1, d2] }
  | _ => none }
def fnExactUnionRow : OpenClaim := { program := "ytfikbjbijpbdkaa", sum := "f99f1fc8082cb70c873ff7bd8b4c77de123dfd144cc2a22d11b1c7e15babb6f7", func := "loop.example/g00399/laws.FnExactUnion", spec := "fnExactUnion", inPlace := ["slices.overlaps[int]"], unfollowed := true, recurses := true, apart := false }
def FnExactUnionSaid : Prop := fnExactUnionRow.holds Try.pinned (OpenSpec.ofChange fnExactUnionSpec)

/-- ITS FALSE NEIGHBOUR: 'it returns false'. Refute it at one input. -/
def fnExactUnionWrong : ChangeSpec := { name := "fnExactUnion", fn := fun _ => fun
  | [d1, d2] => { results := [.lit (.bool false)], args := [d1, d2] }
  | _ => none }
def FnExactUnionWrongFalsely : Prop := fnExactUnionRow.holds Try.pinned (OpenSpec.ofChange fnExactUnionWrong)

/-- 'laws.FnExactMetaBytes': WHATEVER THE INPUT: true; the input reads as it did. -/
def fnExactMetaBytesSpec : ChangeSpec := { name := "fnExactMetaBytes", fn := fun _ => fun
  | [d] => { results := [.lit (.bool true)], args := [d] }
  | _ => none }
def fnExactMetaBytesRow : OpenClaim := { program := "ytfikbjbijpbdkaa", sum := "f99f1fc8082cb70c873ff7bd8b4c77de123dfd144cc2a22d11b1c7e15babb6f7", func := "loop.example/g00399/laws.FnExactMetaBytes", spec := "fnExactMetaBytes", unfollowed := true, recurses := true, apart := false }
def FnExactMetaBytesSaid : Prop := fnExactMetaBytesRow.holds Try.pinned (OpenSpec.ofChange fnExactMetaBytesSpec)

/-- ITS FALSE NEIGHBOUR: 'it returns false'. Refute it at one input. -/
def fnExactMetaBytesWrong : ChangeSpec := { name := "fnExactMetaBytes", fn := fun _ => fun
  | [d] => { results := [.lit (.bool false)], args := [d] }
  | _ => none }
def FnExactMetaBytesWrongFalsely : Prop := fnExactMetaBytesRow.holds Try.pinned (OpenSpec.ofChange fnExactMetaBytesWrong)

/-- 'laws.FnMarksAlgebra': WHATEVER THE INPUT: true; the input reads as it did. -/
def fnMarksAlgebraSpec : ChangeSpec := { name := "fnMarksAlgebra", fn := fun _ => fun
  | [d] => { results := [.lit (.bool true)], args := [d] }
  | _ => none }
def fnMarksAlgebraRow : OpenClaim := { program := "ytfikbjbijpbdkaa", sum := "f99f1fc8082cb70c873ff7bd8b4c77de123dfd144cc2a22d11b1c7e15babb6f7", func := "loop.example/g00399/laws.FnMarksAlgebra", spec := "fnMarksAlgebra", inPlace := ["slices.overlaps[int]"], unfollowed := true, recurses := true, apart := false }
def FnMarksAlgebraSaid : Prop := fnMarksAlgebraRow.holds Try.pinned (OpenSpec.ofChange fnMarksAlgebraSpec)

/-- ITS FALSE NEIGHBOUR: 'it returns false'. Refute it at one input. -/
def fnMarksAlgebraWrong : ChangeSpec := { name := "fnMarksAlgebra", fn := fun _ => fun
  | [d] => { results := [.lit (.bool false)], args := [d] }
  | _ => none }
def FnMarksAlgebraWrongFalsely : Prop := fnMarksAlgebraRow.holds Try.pinned (OpenSpec.ofChange fnMarksAlgebraWrong)

/-- 'laws.FnExactMsgOf': WHATEVER THE INPUT: true; the input reads as it did. -/
def fnExactMsgOfSpec : ChangeSpec := { name := "fnExactMsgOf", fn := fun _ => fun
  | [d1, d2] => { results := [.lit (.bool true)], args := [d1, d2] }
  | _ => none }
def fnExactMsgOfRow : OpenClaim := { program := "ytfikbjbijpbdkaa", sum := "f99f1fc8082cb70c873ff7bd8b4c77de123dfd144cc2a22d11b1c7e15babb6f7", func := "loop.example/g00399/laws.FnExactMsgOf", spec := "fnExactMsgOf", apart := false }
def FnExactMsgOfSaid : Prop := fnExactMsgOfRow.holds Try.pinned (OpenSpec.ofChange fnExactMsgOfSpec)

/-- ITS FALSE NEIGHBOUR: 'it returns false'. Refute it at one input. -/
def fnExactMsgOfWrong : ChangeSpec := { name := "fnExactMsgOf", fn := fun _ => fun
  | [d1, d2] => { results := [.lit (.bool false)], args := [d1, d2] }
  | _ => none }
def FnExactMsgOfWrongFalsely : Prop := fnExactMsgOfRow.holds Try.pinned (OpenSpec.ofChange fnExactMsgOfWrong)

/-- 'laws.FnExactMetaOf': WHATEVER THE INPUT: true; the input reads as it did. -/
def fnExactMetaOfSpec : ChangeSpec := { name := "fnExactMetaOf", fn := fun _ => fun
  | [d] => { results := [.lit (.bool true)], args := [d] }
  | _ => none }
def fnExactMetaOfRow : OpenClaim := { program := "ytfikbjbijpbdkaa", sum := "f99f1fc8082cb70c873ff7bd8b4c77de123dfd144cc2a22d11b1c7e15babb6f7", func := "loop.example/g00399/laws.FnExactMetaOf", spec := "fnExactMetaOf", unfollowed := true, recurses := true, apart := false }
def FnExactMetaOfSaid : Prop := fnExactMetaOfRow.holds Try.pinned (OpenSpec.ofChange fnExactMetaOfSpec)

/-- ITS FALSE NEIGHBOUR: 'it returns false'. Refute it at one input. -/
def fnExactMetaOfWrong : ChangeSpec := { name := "fnExactMetaOf", fn := fun _ => fun
  | [d] => { results := [.lit (.bool false)], args := [d] }
  | _ => none }
def FnExactMetaOfWrongFalsely : Prop := fnExactMetaOfRow.holds Try.pinned (OpenSpec.ofChange fnExactMetaOfWrong)

/-- 'laws.FnExactPack': WHATEVER THE INPUT: true; the input reads as it did. -/
def fnExactPackSpec : ChangeSpec := { name := "fnExactPack", fn := fun _ => fun
  | [d] => { results := [.lit (.bool true)], args := [d] }
  | _ => none }
def fnExactPackRow : OpenClaim := { program := "ytfikbjbijpbdkaa", sum := "f99f1fc8082cb70c873ff7bd8b4c77de123dfd144cc2a22d11b1c7e15babb6f7", func := "loop.example/g00399/laws.FnExactPack", spec := "fnExactPack", apart := false }
def FnExactPackSaid : Prop := fnExactPackRow.holds Try.pinned (OpenSpec.ofChange fnExactPackSpec)

/-- ITS FALSE NEIGHBOUR: 'it returns false'. Refute it at one input. -/
def fnExactPackWrong : ChangeSpec := { name := "fnExactPack", fn := fun _ => fun
  | [d] => { results := [.lit (.bool false)], args := [d] }
  | _ => none }
def FnExactPackWrongFalsely : Prop := fnExactPackRow.holds Try.pinned (OpenSpec.ofChange fnExactPackWrong)

/-- 'laws.FnCells': WHATEVER THE INPUT: true; the input reads as it did. -/
def fnCellsSpec : ChangeSpec := { name := "fnCells", fn := fun _ => fun
  | [d] => { results := [.lit (.bool true)], args := [d] }
  | _ => none }
def fnCellsRow : OpenClaim := { program := "ytfikbjbijpbdkaa", sum := "f99f1fc8082cb70c873ff7bd8b4c77de123dfd144cc2a22d11b1c7e15babb6f7", func := "loop.example/g00399/laws.FnCells", spec := "fnCells", inPlace := ["slices.overlaps[int]"], unfollowed := true, recurses := true, apart := false }
def FnCellsSaid : Prop := fnCellsRow.holds Try.pinned (OpenSpec.ofChange fnCellsSpec)

/-- ITS FALSE NEIGHBOUR: 'it returns false'. Refute it at one input. -/
def fnCellsWrong : ChangeSpec := { name := "fnCells", fn := fun _ => fun
  | [d] => { results := [.lit (.bool false)], args := [d] }
  | _ => none }
def FnCellsWrongFalsely : Prop := fnCellsRow.holds Try.pinned (OpenSpec.ofChange fnCellsWrong)

/- THE SECOND FORM. 'bulk': how many values and letters a reading holds, each counted each time it is reached (what is shared counts as often as it is met; a slice's spare places count too). A statement '..UptoSaid' is the law's where the arguments, and the package variables that the reading takes, are together of bulk at most 1048576: NARROWER than '..Said'. Prove '..Said' where nothing that the law and all that it calls make is longer than what came in: it says more and counts as full. Else prove '..UptoSaid'. A law counts once. -/
mutual
def uptoBulk {H : Type} : DataW H → Nat
  | .lit (.string bytes) => bytes.length + 1
  | .lit _ => 1
  | .nil => 1
  | .ptr d => uptoBulk d + 1
  | .slice elems spare => uptoBulkAll elems + uptoBulkAll spare + 1
  | .agg parts => uptoBulkAll parts + 1
  | .iface _ d => uptoBulk d + 1
  | .map entries => uptoBulkEntries entries + 1
  | .held _ => 1
def uptoBulkAll {H : Type} : List (DataW H) → Nat
  | [] => 0
  | d :: r => uptoBulk d + uptoBulkAll r
def uptoBulkEntries {H : Type} : List (Lit × DataW H) → Nat
  | [] => 0
  | x :: r => uptoBulkEntry x + uptoBulkEntries r
def uptoBulkEntry {H : Type} : Lit × DataW H → Nat
  | (.string bytes, d) => bytes.length + uptoBulk d + 1
  | (_, d) => uptoBulk d + 1
 end
def uptoSmall : (H : Type) → List (DataW H) → Bool := fun _ ds => decide (uptoBulkAll ds ≤ 1048576)
def OpenSpec.upto (s : _root_.Go.ChangeSpec) : _root_.Go.OpenSpec := { _root_.Go.OpenSpec.ofChange s with cond := some uptoSmall }

/-- 'laws.FnNumbers', WHERE WHAT IT READS IS OF BULK AT MOST 1048576: true; the input reads as it did. -/
def fnNumbersUptoRow : OpenClaim := { program := "ytfikbjbijpbdkaa", sum := "f99f1fc8082cb70c873ff7bd8b4c77de123dfd144cc2a22d11b1c7e15babb6f7", func := "loop.example/g00399/laws.FnNumbers", spec := "fnNumbers", recurses := true, apart := false, narrowed := true }
def FnNumbersUptoSaid : Prop := fnNumbersUptoRow.holds Try.pinned (OpenSpec.upto fnNumbersSpec)

/-- 'laws.FnExactMetaNew', WHERE WHAT IT READS IS OF BULK AT MOST 1048576: true; the input reads as it did. -/
def fnExactMetaNewUptoRow : OpenClaim := { program := "ytfikbjbijpbdkaa", sum := "f99f1fc8082cb70c873ff7bd8b4c77de123dfd144cc2a22d11b1c7e15babb6f7", func := "loop.example/g00399/laws.FnExactMetaNew", spec := "fnExactMetaNew", unfollowed := true, recurses := true, apart := false, narrowed := true }
def FnExactMetaNewUptoSaid : Prop := fnExactMetaNewUptoRow.holds Try.pinned (OpenSpec.upto fnExactMetaNewSpec)

/-- 'laws.FnExactMark', WHERE WHAT IT READS IS OF BULK AT MOST 1048576: true; the input reads as it did. -/
def fnExactMarkUptoRow : OpenClaim := { program := "ytfikbjbijpbdkaa", sum := "f99f1fc8082cb70c873ff7bd8b4c77de123dfd144cc2a22d11b1c7e15babb6f7", func := "loop.example/g00399/laws.FnExactMark", spec := "fnExactMark", inPlace := ["slices.overlaps[int]"], unfollowed := true, recurses := true, apart := false, narrowed := true }
def FnExactMarkUptoSaid : Prop := fnExactMarkUptoRow.holds Try.pinned (OpenSpec.upto fnExactMarkSpec)

/-- 'laws.FnSqueezed', WHERE WHAT IT READS IS OF BULK AT MOST 1048576: true; the input reads as it did. -/
def fnSqueezedUptoRow : OpenClaim := { program := "ytfikbjbijpbdkaa", sum := "f99f1fc8082cb70c873ff7bd8b4c77de123dfd144cc2a22d11b1c7e15babb6f7", func := "loop.example/g00399/laws.FnSqueezed", spec := "fnSqueezed", apart := false, narrowed := true }
def FnSqueezedUptoSaid : Prop := fnSqueezedUptoRow.holds Try.pinned (OpenSpec.upto fnSqueezedSpec)

/-- 'laws.FnExactMsgBytes', WHERE WHAT IT READS IS OF BULK AT MOST 1048576: true; the input reads as it did. -/
def fnExactMsgBytesUptoRow : OpenClaim := { program := "ytfikbjbijpbdkaa", sum := "f99f1fc8082cb70c873ff7bd8b4c77de123dfd144cc2a22d11b1c7e15babb6f7", func := "loop.example/g00399/laws.FnExactMsgBytes", spec := "fnExactMsgBytes", apart := false, narrowed := true }
def FnExactMsgBytesUptoSaid : Prop := fnExactMsgBytesUptoRow.holds Try.pinned (OpenSpec.upto fnExactMsgBytesSpec)

/-- 'laws.FnExactUnion', WHERE WHAT IT READS IS OF BULK AT MOST 1048576: true; the input reads as it did. -/
def fnExactUnionUptoRow : OpenClaim := { program := "ytfikbjbijpbdkaa", sum := "f99f1fc8082cb70c873ff7bd8b4c77de123dfd144cc2a22d11b1c7e15babb6f7", func := "loop.example/g00399/laws.FnExactUnion", spec := "fnExactUnion", inPlace := ["slices.overlaps[int]"], unfollowed := true, recurses := true, apart := false, narrowed := true }
def FnExactUnionUptoSaid : Prop := fnExactUnionUptoRow.holds Try.pinned (OpenSpec.upto fnExactUnionSpec)

/-- 'laws.FnExactMetaBytes', WHERE WHAT IT READS IS OF BULK AT MOST 1048576: true; the input reads as it did. -/
def fnExactMetaBytesUptoRow : OpenClaim := { program := "ytfikbjbijpbdkaa", sum := "f99f1fc8082cb70c873ff7bd8b4c77de123dfd144cc2a22d11b1c7e15babb6f7", func := "loop.example/g00399/laws.FnExactMetaBytes", spec := "fnExactMetaBytes", unfollowed := true, recurses := true, apart := false, narrowed := true }
def FnExactMetaBytesUptoSaid : Prop := fnExactMetaBytesUptoRow.holds Try.pinned (OpenSpec.upto fnExactMetaBytesSpec)

/-- 'laws.FnMarksAlgebra', WHERE WHAT IT READS IS OF BULK AT MOST 1048576: true; the input reads as it did. -/
def fnMarksAlgebraUptoRow : OpenClaim := { program := "ytfikbjbijpbdkaa", sum := "f99f1fc8082cb70c873ff7bd8b4c77de123dfd144cc2a22d11b1c7e15babb6f7", func := "loop.example/g00399/laws.FnMarksAlgebra", spec := "fnMarksAlgebra", inPlace := ["slices.overlaps[int]"], unfollowed := true, recurses := true, apart := false, narrowed := true }
def FnMarksAlgebraUptoSaid : Prop := fnMarksAlgebraUptoRow.holds Try.pinned (OpenSpec.upto fnMarksAlgebraSpec)

/-- 'laws.FnExactMsgOf', WHERE WHAT IT READS IS OF BULK AT MOST 1048576: true; the input reads as it did. -/
def fnExactMsgOfUptoRow : OpenClaim := { program := "ytfikbjbijpbdkaa", sum := "f99f1fc8082cb70c873ff7bd8b4c77de123dfd144cc2a22d11b1c7e15babb6f7", func := "loop.example/g00399/laws.FnExactMsgOf", spec := "fnExactMsgOf", apart := false, narrowed := true }
def FnExactMsgOfUptoSaid : Prop := fnExactMsgOfUptoRow.holds Try.pinned (OpenSpec.upto fnExactMsgOfSpec)

/-- 'laws.FnExactMetaOf', WHERE WHAT IT READS IS OF BULK AT MOST 1048576: true; the input reads as it did. -/
def fnExactMetaOfUptoRow : OpenClaim := { program := "ytfikbjbijpbdkaa", sum := "f99f1fc8082cb70c873ff7bd8b4c77de123dfd144cc2a22d11b1c7e15babb6f7", func := "loop.example/g00399/laws.FnExactMetaOf", spec := "fnExactMetaOf", unfollowed := true, recurses := true, apart := false, narrowed := true }
def FnExactMetaOfUptoSaid : Prop := fnExactMetaOfUptoRow.holds Try.pinned (OpenSpec.upto fnExactMetaOfSpec)

/-- 'laws.FnExactPack', WHERE WHAT IT READS IS OF BULK AT MOST 1048576: true; the input reads as it did. -/
def fnExactPackUptoRow : OpenClaim := { program := "ytfikbjbijpbdkaa", sum := "f99f1fc8082cb70c873ff7bd8b4c77de123dfd144cc2a22d11b1c7e15babb6f7", func := "loop.example/g00399/laws.FnExactPack", spec := "fnExactPack", apart := false, narrowed := true }
def FnExactPackUptoSaid : Prop := fnExactPackUptoRow.holds Try.pinned (OpenSpec.upto fnExactPackSpec)

/-- 'laws.FnCells', WHERE WHAT IT READS IS OF BULK AT MOST 1048576: true; the input reads as it did. -/
def fnCellsUptoRow : OpenClaim := { program := "ytfikbjbijpbdkaa", sum := "f99f1fc8082cb70c873ff7bd8b4c77de123dfd144cc2a22d11b1c7e15babb6f7", func := "loop.example/g00399/laws.FnCells", spec := "fnCells", inPlace := ["slices.overlaps[int]"], unfollowed := true, recurses := true, apart := false, narrowed := true }
def FnCellsUptoSaid : Prop := fnCellsUptoRow.holds Try.pinned (OpenSpec.upto fnCellsSpec)

end Rows
end Go.Proofs.Ytfikbjbijpbdkaa
