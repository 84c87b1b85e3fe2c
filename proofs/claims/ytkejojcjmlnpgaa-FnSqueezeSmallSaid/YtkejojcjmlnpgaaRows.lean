/-
  No cell of these rows narrows 'for every input' (looked for: loops, veiled, ifaces, maps, wideKeys, modest, calm, conditions, laid).
  DERIVED. THE GIVEN ROWS OF THIS SEAT. 12 by the template 'for every input the law returns true; each argument reads behind the call as it read before'; 0 by the template 'total and deterministic' (their statements: YtkejojcjmlnpgaaTotals.lean).
  GIVEN WITH THE SEED: the statements are not yours to turn. If you find one false, say at which input.
  Laid BY PROGRAM, IN A SANDBOX (cutbox-rows.mjs): the forced cells as the released guide's own fill.sh prints them over the translation 4636a61901d995af… (all of the seat's roots in one cut). By AI agents, Wed Nov 11 2026. No macro, syntax, notation, axiom, sorry.
-/
import Derived.Test.YtkejojcjmlnpgaaChecked
import GoSem.Claim
import GoSem.ClaimJoined
import GoSem.ClaimMapViews
import Derived.JoinedTies
import Derived.KernelRfl
namespace Go.Proofs.Ytkejojcjmlnpgaa
/- THE CELL 'sum', in the pinned program and in every row, IS THE sha256 OF THE DUMP (.gsa) THAT YtkejojcjmlnpgaaProg.lean LOADS. Nothing in Lean hashes anything: it is a label: what it is worth is what the hold of that sum in a sandbox is worth. -/
noncomputable def Try.pinned : Pinned := { name := "ytkejojcjmlnpgaa", sum := "4636a61901d995afb6046bff635c43f6b9d8af0dc322fa8a7edeb3531876d73e", checked := Try.checked }
namespace Rows
def none {H : Type} : Left H := { results := [], args := [] }

/-- 'laws.FnExactNewer': WHATEVER THE INPUT: true; the input reads as it did. -/
def fnExactNewerSpec : ChangeSpec := { name := "fnExactNewer", fn := fun _ => fun
  | [d1, d2] => { results := [.lit (.bool true)], args := [d1, d2] }
  | _ => none }
def fnExactNewerRow : OpenClaim := { program := "ytkejojcjmlnpgaa", sum := "4636a61901d995afb6046bff635c43f6b9d8af0dc322fa8a7edeb3531876d73e", func := "loop.example/g00399/laws.FnExactNewer", spec := "fnExactNewer", apart := false }
def FnExactNewerSaid : Prop := fnExactNewerRow.holds Try.pinned (OpenSpec.ofChange fnExactNewerSpec)

/-- ITS FALSE NEIGHBOUR: 'it returns false'. Refute it at one input. -/
def fnExactNewerWrong : ChangeSpec := { name := "fnExactNewer", fn := fun _ => fun
  | [d1, d2] => { results := [.lit (.bool false)], args := [d1, d2] }
  | _ => none }
def FnExactNewerWrongFalsely : Prop := fnExactNewerRow.holds Try.pinned (OpenSpec.ofChange fnExactNewerWrong)

/-- 'laws.FnExactPut': WHATEVER THE INPUT: true; the input reads as it did. -/
def fnExactPutSpec : ChangeSpec := { name := "fnExactPut", fn := fun _ => fun
  | [d1, d2, d3] => { results := [.lit (.bool true)], args := [d1, d2, d3] }
  | _ => none }
def fnExactPutRow : OpenClaim := { program := "ytkejojcjmlnpgaa", sum := "4636a61901d995afb6046bff635c43f6b9d8af0dc322fa8a7edeb3531876d73e", func := "loop.example/g00399/laws.FnExactPut", spec := "fnExactPut", apart := false }
def FnExactPutSaid : Prop := fnExactPutRow.holds Try.pinned (OpenSpec.ofChange fnExactPutSpec)

/-- ITS FALSE NEIGHBOUR: 'it returns false'. Refute it at one input. -/
def fnExactPutWrong : ChangeSpec := { name := "fnExactPut", fn := fun _ => fun
  | [d1, d2, d3] => { results := [.lit (.bool false)], args := [d1, d2, d3] }
  | _ => none }
def FnExactPutWrongFalsely : Prop := fnExactPutRow.holds Try.pinned (OpenSpec.ofChange fnExactPutWrong)

/-- 'laws.FnExactClear': WHATEVER THE INPUT: true; the input reads as it did. -/
def fnExactClearSpec : ChangeSpec := { name := "fnExactClear", fn := fun _ => fun
  | [d1, d2] => { results := [.lit (.bool true)], args := [d1, d2] }
  | _ => none }
def fnExactClearRow : OpenClaim := { program := "ytkejojcjmlnpgaa", sum := "4636a61901d995afb6046bff635c43f6b9d8af0dc322fa8a7edeb3531876d73e", func := "loop.example/g00399/laws.FnExactClear", spec := "fnExactClear", unfollowed := true, recurses := true, apart := false }
def FnExactClearSaid : Prop := fnExactClearRow.holds Try.pinned (OpenSpec.ofChange fnExactClearSpec)

/-- ITS FALSE NEIGHBOUR: 'it returns false'. Refute it at one input. -/
def fnExactClearWrong : ChangeSpec := { name := "fnExactClear", fn := fun _ => fun
  | [d1, d2] => { results := [.lit (.bool false)], args := [d1, d2] }
  | _ => none }
def FnExactClearWrongFalsely : Prop := fnExactClearRow.holds Try.pinned (OpenSpec.ofChange fnExactClearWrong)

/-- 'laws.FnExactGenPush': WHATEVER THE INPUT: true; the input reads as it did. -/
def fnExactGenPushSpec : ChangeSpec := { name := "fnExactGenPush", fn := fun _ => fun
  | [d1, d2] => { results := [.lit (.bool true)], args := [d1, d2] }
  | _ => none }
def fnExactGenPushRow : OpenClaim := { program := "ytkejojcjmlnpgaa", sum := "4636a61901d995afb6046bff635c43f6b9d8af0dc322fa8a7edeb3531876d73e", func := "loop.example/g00399/laws.FnExactGenPush", spec := "fnExactGenPush", apart := false }
def FnExactGenPushSaid : Prop := fnExactGenPushRow.holds Try.pinned (OpenSpec.ofChange fnExactGenPushSpec)

/-- ITS FALSE NEIGHBOUR: 'it returns false'. Refute it at one input. -/
def fnExactGenPushWrong : ChangeSpec := { name := "fnExactGenPush", fn := fun _ => fun
  | [d1, d2] => { results := [.lit (.bool false)], args := [d1, d2] }
  | _ => none }
def FnExactGenPushWrongFalsely : Prop := fnExactGenPushRow.holds Try.pinned (OpenSpec.ofChange fnExactGenPushWrong)

/-- 'laws.FnExactSpread': WHATEVER THE INPUT: true; the input reads as it did. -/
def fnExactSpreadSpec : ChangeSpec := { name := "fnExactSpread", fn := fun _ => fun
  | [d] => { results := [.lit (.bool true)], args := [d] }
  | _ => none }
def fnExactSpreadRow : OpenClaim := { program := "ytkejojcjmlnpgaa", sum := "4636a61901d995afb6046bff635c43f6b9d8af0dc322fa8a7edeb3531876d73e", func := "loop.example/g00399/laws.FnExactSpread", spec := "fnExactSpread", apart := false }
def FnExactSpreadSaid : Prop := fnExactSpreadRow.holds Try.pinned (OpenSpec.ofChange fnExactSpreadSpec)

/-- ITS FALSE NEIGHBOUR: 'it returns false'. Refute it at one input. -/
def fnExactSpreadWrong : ChangeSpec := { name := "fnExactSpread", fn := fun _ => fun
  | [d] => { results := [.lit (.bool false)], args := [d] }
  | _ => none }
def FnExactSpreadWrongFalsely : Prop := fnExactSpreadRow.holds Try.pinned (OpenSpec.ofChange fnExactSpreadWrong)

/-- 'laws.FnExactSqueeze': WHATEVER THE INPUT: true; the input reads as it did. -/
def fnExactSqueezeSpec : ChangeSpec := { name := "fnExactSqueeze", fn := fun _ => fun
  | [d] => { results := [.lit (.bool true)], args := [d] }
  | _ => none }
def fnExactSqueezeRow : OpenClaim := { program := "ytkejojcjmlnpgaa", sum := "4636a61901d995afb6046bff635c43f6b9d8af0dc322fa8a7edeb3531876d73e", func := "loop.example/g00399/laws.FnExactSqueeze", spec := "fnExactSqueeze", apart := false }
def FnExactSqueezeSaid : Prop := fnExactSqueezeRow.holds Try.pinned (OpenSpec.ofChange fnExactSqueezeSpec)

/-- ITS FALSE NEIGHBOUR: 'it returns false'. Refute it at one input. -/
def fnExactSqueezeWrong : ChangeSpec := { name := "fnExactSqueeze", fn := fun _ => fun
  | [d] => { results := [.lit (.bool false)], args := [d] }
  | _ => none }
def FnExactSqueezeWrongFalsely : Prop := fnExactSqueezeRow.holds Try.pinned (OpenSpec.ofChange fnExactSqueezeWrong)

/-- 'laws.FnDifferPuts': WHATEVER THE INPUT: true; the input reads as it did. -/
def fnDifferPutsSpec : ChangeSpec := { name := "fnDifferPuts", fn := fun _ => fun
  | [d] => { results := [.lit (.bool true)], args := [d] }
  | _ => none }
def fnDifferPutsRow : OpenClaim := { program := "ytkejojcjmlnpgaa", sum := "4636a61901d995afb6046bff635c43f6b9d8af0dc322fa8a7edeb3531876d73e", func := "loop.example/g00399/laws.FnDifferPuts", spec := "fnDifferPuts", unfollowed := true, recurses := true, apart := false }
def FnDifferPutsSaid : Prop := fnDifferPutsRow.holds Try.pinned (OpenSpec.ofChange fnDifferPutsSpec)

/-- ITS FALSE NEIGHBOUR: 'it returns false'. Refute it at one input. -/
def fnDifferPutsWrong : ChangeSpec := { name := "fnDifferPuts", fn := fun _ => fun
  | [d] => { results := [.lit (.bool false)], args := [d] }
  | _ => none }
def FnDifferPutsWrongFalsely : Prop := fnDifferPutsRow.holds Try.pinned (OpenSpec.ofChange fnDifferPutsWrong)

/-- 'laws.FnExactMsgOk': WHATEVER THE INPUT: true; the input reads as it did. -/
def fnExactMsgOkSpec : ChangeSpec := { name := "fnExactMsgOk", fn := fun _ => fun
  | [d] => { results := [.lit (.bool true)], args := [d] }
  | _ => none }
def fnExactMsgOkRow : OpenClaim := { program := "ytkejojcjmlnpgaa", sum := "4636a61901d995afb6046bff635c43f6b9d8af0dc322fa8a7edeb3531876d73e", func := "loop.example/g00399/laws.FnExactMsgOk", spec := "fnExactMsgOk", apart := false }
def FnExactMsgOkSaid : Prop := fnExactMsgOkRow.holds Try.pinned (OpenSpec.ofChange fnExactMsgOkSpec)

/-- ITS FALSE NEIGHBOUR: 'it returns false'. Refute it at one input. -/
def fnExactMsgOkWrong : ChangeSpec := { name := "fnExactMsgOk", fn := fun _ => fun
  | [d] => { results := [.lit (.bool false)], args := [d] }
  | _ => none }
def FnExactMsgOkWrongFalsely : Prop := fnExactMsgOkRow.holds Try.pinned (OpenSpec.ofChange fnExactMsgOkWrong)

/-- 'laws.FnExactSameMeta': WHATEVER THE INPUT: true; the input reads as it did. -/
def fnExactSameMetaSpec : ChangeSpec := { name := "fnExactSameMeta", fn := fun _ => fun
  | [d1, d2] => { results := [.lit (.bool true)], args := [d1, d2] }
  | _ => none }
def fnExactSameMetaRow : OpenClaim := { program := "ytkejojcjmlnpgaa", sum := "4636a61901d995afb6046bff635c43f6b9d8af0dc322fa8a7edeb3531876d73e", func := "loop.example/g00399/laws.FnExactSameMeta", spec := "fnExactSameMeta", unfollowed := true, recurses := true, apart := false }
def FnExactSameMetaSaid : Prop := fnExactSameMetaRow.holds Try.pinned (OpenSpec.ofChange fnExactSameMetaSpec)

/-- ITS FALSE NEIGHBOUR: 'it returns false'. Refute it at one input. -/
def fnExactSameMetaWrong : ChangeSpec := { name := "fnExactSameMeta", fn := fun _ => fun
  | [d1, d2] => { results := [.lit (.bool false)], args := [d1, d2] }
  | _ => none }
def FnExactSameMetaWrongFalsely : Prop := fnExactSameMetaRow.holds Try.pinned (OpenSpec.ofChange fnExactSameMetaWrong)

/-- 'laws.FnSqueezeSmall': WHATEVER THE INPUT: true; the input reads as it did. -/
def fnSqueezeSmallSpec : ChangeSpec := { name := "fnSqueezeSmall", fn := fun _ => fun
  | [d] => { results := [.lit (.bool true)], args := [d] }
  | _ => none }
def fnSqueezeSmallRow : OpenClaim := { program := "ytkejojcjmlnpgaa", sum := "4636a61901d995afb6046bff635c43f6b9d8af0dc322fa8a7edeb3531876d73e", func := "loop.example/g00399/laws.FnSqueezeSmall", spec := "fnSqueezeSmall", apart := false }
def FnSqueezeSmallSaid : Prop := fnSqueezeSmallRow.holds Try.pinned (OpenSpec.ofChange fnSqueezeSmallSpec)

/-- ITS FALSE NEIGHBOUR: 'it returns false'. Refute it at one input. -/
def fnSqueezeSmallWrong : ChangeSpec := { name := "fnSqueezeSmall", fn := fun _ => fun
  | [d] => { results := [.lit (.bool false)], args := [d] }
  | _ => none }
def FnSqueezeSmallWrongFalsely : Prop := fnSqueezeSmallRow.holds Try.pinned (OpenSpec.ofChange fnSqueezeSmallWrong)

/-- 'laws.FnGens': WHATEVER THE INPUT: true; the input reads as it did. -/
def fnGensSpec : ChangeSpec := { name := "fnGens", fn := fun _ => fun
  | [d] => { results := [.lit (.bool true)], args := [d] }
  | _ => none }
def fnGensRow : OpenClaim := { program := "ytkejojcjmlnpgaa", sum := "4636a61901d995afb6046bff635c43f6b9d8af0dc322fa8a7edeb3531876d73e", func := "loop.example/g00399/laws.FnGens", spec := "fnGens", apart := false }
def FnGensSaid : Prop := fnGensRow.holds Try.pinned (OpenSpec.ofChange fnGensSpec)

/-- ITS FALSE NEIGHBOUR: 'it returns false'. Refute it at one input. -/
def fnGensWrong : ChangeSpec := { name := "fnGens", fn := fun _ => fun
  | [d] => { results := [.lit (.bool false)], args := [d] }
  | _ => none }
def FnGensWrongFalsely : Prop := fnGensRow.holds Try.pinned (OpenSpec.ofChange fnGensWrong)

/-- 'laws.FnExactMetaOk': WHATEVER THE INPUT: true; the input reads as it did. -/
def fnExactMetaOkSpec : ChangeSpec := { name := "fnExactMetaOk", fn := fun _ => fun
  | [d] => { results := [.lit (.bool true)], args := [d] }
  | _ => none }
def fnExactMetaOkRow : OpenClaim := { program := "ytkejojcjmlnpgaa", sum := "4636a61901d995afb6046bff635c43f6b9d8af0dc322fa8a7edeb3531876d73e", func := "loop.example/g00399/laws.FnExactMetaOk", spec := "fnExactMetaOk", unfollowed := true, recurses := true, apart := false }
def FnExactMetaOkSaid : Prop := fnExactMetaOkRow.holds Try.pinned (OpenSpec.ofChange fnExactMetaOkSpec)

/-- ITS FALSE NEIGHBOUR: 'it returns false'. Refute it at one input. -/
def fnExactMetaOkWrong : ChangeSpec := { name := "fnExactMetaOk", fn := fun _ => fun
  | [d] => { results := [.lit (.bool false)], args := [d] }
  | _ => none }
def FnExactMetaOkWrongFalsely : Prop := fnExactMetaOkRow.holds Try.pinned (OpenSpec.ofChange fnExactMetaOkWrong)

/- THE SECOND FORM. 'bulk': how many values and letters a reading holds, each counted each time it is reached (what is shared counts as often as it is met; a slice's spare places count too). A statement '..UptoSaid' is the law's where the arguments, and the package variables that the reading takes, are together of bulk at most 1048576: NARROWER than '..Said'. Prove '..Said' where nothing that the law and all that it calls make is longer than what came in: it says more and counts as full. Else prove '..UptoSaid'. A law counts once. -/
mutual
def uptoBulk {H : Type} : DataW H → Nat
  | .lit (.string bytes) => bytes.length + 1
  | .lit _ => 1
  | .nil => 1
  | .ptr d => uptoBulk d + 1
  | .slice elems spare => uptoBulkAll elems + uptoBulkAll spare + 1
  | .agg parts => uptoBulkAll parts + 1
  | .iface _ d => uptoBulk d + 1
  | .map entries => uptoBulkEntries entries + 1
  | .held _ => 1
def uptoBulkAll {H : Type} : List (DataW H) → Nat
  | [] => 0
  | d :: r => uptoBulk d + uptoBulkAll r
def uptoBulkEntries {H : Type} : List (Lit × DataW H) → Nat
  | [] => 0
  | x :: r => uptoBulkEntry x + uptoBulkEntries r
def uptoBulkEntry {H : Type} : Lit × DataW H → Nat
  | (.string bytes, d) => bytes.length + uptoBulk d + 1
  | (_, d) => uptoBulk d + 1
 end
def uptoSmall : (H : Type) → List (DataW H) → Bool := fun _ ds => decide (uptoBulkAll ds ≤ 1048576)
def OpenSpec.upto (s : _root_.Go.ChangeSpec) : _root_.Go.OpenSpec := { _root_.Go.OpenSpec.ofChange s with cond := some uptoSmall }

/-- 'laws.FnExactNewer', WHERE WHAT IT READS IS OF BULK AT MOST 1048576: true; the input reads as it did. -/
def fnExactNewerUptoRow : OpenClaim := { program := "ytkejojcjmlnpgaa", sum := "4636a61901d995afb6046bff635c43f6b9d8af0dc322fa8a7edeb3531876d73e", func := "loop.example/g00399/laws.FnExactNewer", spec := "fnExactNewer", apart := false, narrowed := true }
def FnExactNewerUptoSaid : Prop := fnExactNewerUptoRow.holds Try.pinned (OpenSpec.upto fnExactNewerSpec)

/-- 'laws.FnExactPut', WHERE WHAT IT READS IS OF BULK AT MOST 1048576: true; the input reads as it did. -/
def fnExactPutUptoRow : OpenClaim := { program := "ytkejojcjmlnpgaa", sum := "4636a61901d995afb6046bff635c43f6b9d8af0dc322fa8a7edeb3531876d73e", func := "loop.example/g00399/laws.FnExactPut", spec := "fnExactPut", apart := false, narrowed := true }
def FnExactPutUptoSaid : Prop := fnExactPutUptoRow.holds Try.pinned (OpenSpec.upto fnExactPutSpec)

/-- 'laws.FnExactClear', WHERE WHAT IT READS IS OF BULK AT MOST 1048576: true; the input reads as it did. -/
def fnExactClearUptoRow : OpenClaim := { program := "ytkejojcjmlnpgaa", sum := "4636a61901d995afb6046bff635c43f6b9d8af0dc322fa8a7edeb3531876d73e", func := "loop.example/g00399/laws.FnExactClear", spec := "fnExactClear", unfollowed := true, recurses := true, apart := false, narrowed := true }
def FnExactClearUptoSaid : Prop := fnExactClearUptoRow.holds Try.pinned (OpenSpec.upto fnExactClearSpec)

/-- 'laws.FnExactGenPush', WHERE WHAT IT READS IS OF BULK AT MOST 1048576: true; the input reads as it did. -/
def fnExactGenPushUptoRow : OpenClaim := { program := "ytkejojcjmlnpgaa", sum := "4636a61901d995afb6046bff635c43f6b9d8af0dc322fa8a7edeb3531876d73e", func := "loop.example/g00399/laws.FnExactGenPush", spec := "fnExactGenPush", apart := false, narrowed := true }
def FnExactGenPushUptoSaid : Prop := fnExactGenPushUptoRow.holds Try.pinned (OpenSpec.upto fnExactGenPushSpec)

/-- 'laws.FnExactSpread', WHERE WHAT IT READS IS OF BULK AT MOST 1048576: true; the input reads as it did. -/
def fnExactSpreadUptoRow : OpenClaim := { program := "ytkejojcjmlnpgaa", sum := "4636a61901d995afb6046bff635c43f6b9d8af0dc322fa8a7edeb3531876d73e", func := "loop.example/g00399/laws.FnExactSpread", spec := "fnExactSpread", apart := false, narrowed := true }
def FnExactSpreadUptoSaid : Prop := fnExactSpreadUptoRow.holds Try.pinned (OpenSpec.upto fnExactSpreadSpec)

/-- 'laws.FnExactSqueeze', WHERE WHAT IT READS IS OF BULK AT MOST 1048576: true; the input reads as it did. -/
def fnExactSqueezeUptoRow : OpenClaim := { program := "ytkejojcjmlnpgaa", sum := "4636a61901d995afb6046bff635c43f6b9d8af0dc322fa8a7edeb3531876d73e", func := "loop.example/g00399/laws.FnExactSqueeze", spec := "fnExactSqueeze", apart := false, narrowed := true }
def FnExactSqueezeUptoSaid : Prop := fnExactSqueezeUptoRow.holds Try.pinned (OpenSpec.upto fnExactSqueezeSpec)

/-- 'laws.FnDifferPuts', WHERE WHAT IT READS IS OF BULK AT MOST 1048576: true; the input reads as it did. -/
def fnDifferPutsUptoRow : OpenClaim := { program := "ytkejojcjmlnpgaa", sum := "4636a61901d995afb6046bff635c43f6b9d8af0dc322fa8a7edeb3531876d73e", func := "loop.example/g00399/laws.FnDifferPuts", spec := "fnDifferPuts", unfollowed := true, recurses := true, apart := false, narrowed := true }
def FnDifferPutsUptoSaid : Prop := fnDifferPutsUptoRow.holds Try.pinned (OpenSpec.upto fnDifferPutsSpec)

/-- 'laws.FnExactMsgOk', WHERE WHAT IT READS IS OF BULK AT MOST 1048576: true; the input reads as it did. -/
def fnExactMsgOkUptoRow : OpenClaim := { program := "ytkejojcjmlnpgaa", sum := "4636a61901d995afb6046bff635c43f6b9d8af0dc322fa8a7edeb3531876d73e", func := "loop.example/g00399/laws.FnExactMsgOk", spec := "fnExactMsgOk", apart := false, narrowed := true }
def FnExactMsgOkUptoSaid : Prop := fnExactMsgOkUptoRow.holds Try.pinned (OpenSpec.upto fnExactMsgOkSpec)

/-- 'laws.FnExactSameMeta', WHERE WHAT IT READS IS OF BULK AT MOST 1048576: true; the input reads as it did. -/
def fnExactSameMetaUptoRow : OpenClaim := { program := "ytkejojcjmlnpgaa", sum := "4636a61901d995afb6046bff635c43f6b9d8af0dc322fa8a7edeb3531876d73e", func := "loop.example/g00399/laws.FnExactSameMeta", spec := "fnExactSameMeta", unfollowed := true, recurses := true, apart := false, narrowed := true }
def FnExactSameMetaUptoSaid : Prop := fnExactSameMetaUptoRow.holds Try.pinned (OpenSpec.upto fnExactSameMetaSpec)

/-- 'laws.FnSqueezeSmall', WHERE WHAT IT READS IS OF BULK AT MOST 1048576: true; the input reads as it did. -/
def fnSqueezeSmallUptoRow : OpenClaim := { program := "ytkejojcjmlnpgaa", sum := "4636a61901d995afb6046bff635c43f6b9d8af0dc322fa8a7edeb3531876d73e", func := "loop.example/g00399/laws.FnSqueezeSmall", spec := "fnSqueezeSmall", apart := false, narrowed := true }
def FnSqueezeSmallUptoSaid : Prop := fnSqueezeSmallUptoRow.holds Try.pinned (OpenSpec.upto fnSqueezeSmallSpec)

/-- 'laws.FnGens', WHERE WHAT IT READS IS OF BULK AT MOST 1048576: true; the input reads as it did. -/
def fnGensUptoRow : OpenClaim := { program := "ytkejojcjmlnpgaa", sum := "4636a61901d995afb6046bff635c43f6b9d8af0dc322fa8a7edeb3531876d73e", func := "loop.example/g00399/laws.FnGens", spec := "fnGens", apart := false, narrowed := true }
def FnGensUptoSaid : Prop := fnGensUptoRow.holds Try.pinned (OpenSpec.upto fnGensSpec)

/-- 'laws.FnExactMetaOk', WHERE WHAT IT READS IS OF BULK AT MOST 1048576: true; the input reads as it did. -/
def fnExactMetaOkUptoRow : OpenClaim := { program := "ytkejojcjmlnpgaa", sum := "4636a61901d995afb6046bff635c43f6b9d8af0dc322fa8a7edeb3531876d73e", func := "loop.example/g00399/laws.FnExactMetaOk", spec := "fnExactMetaOk", unfollowed := true, recurses := true, apart := false, narrowed := true }
def FnExactMetaOkUptoSaid : Prop := fnExactMetaOkUptoRow.holds Try.pinned (OpenSpec.upto fnExactMetaOkSpec)

end Rows
end Go.Proofs.Ytkejojcjmlnpgaa
