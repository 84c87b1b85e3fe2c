/-
  No cell of these rows narrows 'for every input' (looked for: loops, veiled, ifaces, maps, wideKeys, modest, calm, conditions, laid).
  DERIVED. THE GIVEN ROWS OF THIS SEAT. 8 by the template 'for every input the law returns true; each argument reads behind the call as it read before'; 0 by the template 'total and deterministic' (their statements: YtffbfnogdghkgaaTotals.lean).
  GIVEN WITH THE SEED: the statements are not yours to turn. If you find one false, say at which input.
  Laid BY PROGRAM, IN A SANDBOX (cutbox-rows.mjs): the forced cells as the released guide's own fill.sh prints them over the translation 51f8bf45c2380467… (all of the seat's roots in one cut). By AI agents, Wed Nov 11 2026. No macro, syntax, notation, axiom, sorry.
-/
import Derived.Test.YtffbfnogdghkgaaChecked
import GoSem.Claim
import GoSem.ClaimJoined
import GoSem.ClaimMapViews
import Derived.JoinedTies
import Derived.KernelRfl
namespace Go.Proofs.Ytffbfnogdghkgaa
/- THE CELL 'sum', in the pinned program and in every row, IS THE sha256 OF THE DUMP (.gsa) THAT YtffbfnogdghkgaaProg.lean LOADS. Nothing in Lean hashes anything: it is a label: what it is worth is what the hold of that sum in a sandbox is worth. -/
noncomputable def Try.pinned : Pinned := { name := "ytffbfnogdghkgaa", sum := "51f8bf45c23804671e7391524fbf8a50166816562b2cd6851588593e0be175d6", checked := Try.checked }
namespace Rows
def none {H : Type} : Left H := { results := [], args := [] }

/-- 'laws.FnExactDigits': WHATEVER THE INPUT: true; the input reads as it did. -/
def fnExactDigitsSpec : ChangeSpec := { name := "fnExactDigits", fn := fun _ => fun
  | [d] => { results := [.lit (.bool true)], args := [d] }
  | _ => none }
def fnExactDigitsRow : OpenClaim := { program := "ytffbfnogdghkgaa", sum := "51f8bf45c23804671e7391524fbf8a50166816562b2cd6851588593e0be175d6", func := "loop.example/g00399/laws.FnExactDigits", spec := "fnExactDigits", recurses := true, apart := false }
def FnExactDigitsSaid : Prop := fnExactDigitsRow.holds Try.pinned (OpenSpec.ofChange fnExactDigitsSpec)

/-- ITS FALSE NEIGHBOUR: 'it returns false'. Refute it at one input. -/
def fnExactDigitsWrong : ChangeSpec := { name := "fnExactDigits", fn := fun _ => fun
  | [d] => { results := [.lit (.bool false)], args := [d] }
  | _ => none }
def FnExactDigitsWrongFalsely : Prop := fnExactDigitsRow.holds Try.pinned (OpenSpec.ofChange fnExactDigitsWrong)

/-- 'laws.FnExactClear': WHATEVER THE INPUT: true; the input reads as it did. -/
def fnExactClearSpec : ChangeSpec := { name := "fnExactClear", fn := fun _ => fun
  | [d1, d2] => { results := [.lit (.bool true)], args := [d1, d2] }
  | _ => none }
def fnExactClearRow : OpenClaim := { program := "ytffbfnogdghkgaa", sum := "51f8bf45c23804671e7391524fbf8a50166816562b2cd6851588593e0be175d6", func := "loop.example/g00399/laws.FnExactClear", spec := "fnExactClear", unfollowed := true, recurses := true, apart := false }
def FnExactClearSaid : Prop := fnExactClearRow.holds Try.pinned (OpenSpec.ofChange fnExactClearSpec)

/-- ITS FALSE NEIGHBOUR: 'it returns false'. Refute it at one input. -/
def fnExactClearWrong : ChangeSpec := { name := "fnExactClear", fn := fun _ => fun
  | [d1, d2] => { results := [.lit (.bool false)], args := [d1, d2] }
  | _ => none }
def FnExactClearWrongFalsely : Prop := fnExactClearRow.holds Try.pinned (OpenSpec.ofChange fnExactClearWrong)

/-- 'laws.FnExactMsgOk': WHATEVER THE INPUT: true; the input reads as it did. -/
def fnExactMsgOkSpec : ChangeSpec := { name := "fnExactMsgOk", fn := fun _ => fun
  | [d] => { results := [.lit (.bool true)], args := [d] }
  | _ => none }
def fnExactMsgOkRow : OpenClaim := { program := "ytffbfnogdghkgaa", sum := "51f8bf45c23804671e7391524fbf8a50166816562b2cd6851588593e0be175d6", func := "loop.example/g00399/laws.FnExactMsgOk", spec := "fnExactMsgOk", apart := false }
def FnExactMsgOkSaid : Prop := fnExactMsgOkRow.holds Try.pinned (OpenSpec.ofChange fnExactMsgOkSpec)

/-- ITS FALSE NEIGHBOUR: 'it returns false'. Refute it at one input. -/
def fnExactMsgOkWrong : ChangeSpec := { name := "fnExactMsgOk", fn := fun _ => fun
  | [d] => { results := [.lit (.bool false)], args := [d] }
  | _ => none }
def FnExactMsgOkWrongFalsely : Prop := fnExactMsgOkRow.holds Try.pinned (OpenSpec.ofChange fnExactMsgOkWrong)

/-- 'laws.FnExactSameMeta': WHATEVER THE INPUT: true; the input reads as it did. -/
def fnExactSameMetaSpec : ChangeSpec := { name := "fnExactSameMeta", fn := fun _ => fun
  | [d1, d2] => { results := [.lit (.bool true)], args := [d1, d2] }
  | _ => none }
def fnExactSameMetaRow : OpenClaim := { program := "ytffbfnogdghkgaa", sum := "51f8bf45c23804671e7391524fbf8a50166816562b2cd6851588593e0be175d6", func := "loop.example/g00399/laws.FnExactSameMeta", spec := "fnExactSameMeta", unfollowed := true, recurses := true, apart := false }
def FnExactSameMetaSaid : Prop := fnExactSameMetaRow.holds Try.pinned (OpenSpec.ofChange fnExactSameMetaSpec)

/-- ITS FALSE NEIGHBOUR: 'it returns false'. Refute it at one input. -/
def fnExactSameMetaWrong : ChangeSpec := { name := "fnExactSameMeta", fn := fun _ => fun
  | [d1, d2] => { results := [.lit (.bool false)], args := [d1, d2] }
  | _ => none }
def FnExactSameMetaWrongFalsely : Prop := fnExactSameMetaRow.holds Try.pinned (OpenSpec.ofChange fnExactSameMetaWrong)

/-- 'laws.FnExactMetaOk': WHATEVER THE INPUT: true; the input reads as it did. -/
def fnExactMetaOkSpec : ChangeSpec := { name := "fnExactMetaOk", fn := fun _ => fun
  | [d] => { results := [.lit (.bool true)], args := [d] }
  | _ => none }
def fnExactMetaOkRow : OpenClaim := { program := "ytffbfnogdghkgaa", sum := "51f8bf45c23804671e7391524fbf8a50166816562b2cd6851588593e0be175d6", func := "loop.example/g00399/laws.FnExactMetaOk", spec := "fnExactMetaOk", unfollowed := true, recurses := true, apart := false }
def FnExactMetaOkSaid : Prop := fnExactMetaOkRow.holds Try.pinned (OpenSpec.ofChange fnExactMetaOkSpec)

/-- ITS FALSE NEIGHBOUR: 'it returns false'. Refute it at one input. -/
def fnExactMetaOkWrong : ChangeSpec := { name := "fnExactMetaOk", fn := fun _ => fun
  | [d] => { results := [.lit (.bool false)], args := [d] }
  | _ => none }
def FnExactMetaOkWrongFalsely : Prop := fnExactMetaOkRow.holds Try.pinned (OpenSpec.ofChange fnExactMetaOkWrong)

/-- 'laws.FnMetas': WHATEVER THE INPUT: true; the input reads as it did. -/
def fnMetasSpec : ChangeSpec := { name := "fnMetas", fn := fun _ => fun
  | [d] => { results := [.lit (.bool true)], args := [d] }
  | _ => none }
def fnMetasRow : OpenClaim := { program := "ytffbfnogdghkgaa", sum := "51f8bf45c23804671e7391524fbf8a50166816562b2cd6851588593e0be175d6", func := "loop.example/g00399/laws.FnMetas", spec := "fnMetas", unfollowed := true, recurses := true, apart := false }
def FnMetasSaid : Prop := fnMetasRow.holds Try.pinned (OpenSpec.ofChange fnMetasSpec)

/-- ITS FALSE NEIGHBOUR: 'it returns false'. Refute it at one input. -/
def fnMetasWrong : ChangeSpec := { name := "fnMetas", fn := fun _ => fun
  | [d] => { results := [.lit (.bool false)], args := [d] }
  | _ => none }
def FnMetasWrongFalsely : Prop := fnMetasRow.holds Try.pinned (OpenSpec.ofChange fnMetasWrong)

/-- 'laws.FnExactUnpack': WHATEVER THE INPUT: true; the input reads as it did. -/
def fnExactUnpackSpec : ChangeSpec := { name := "fnExactUnpack", fn := fun _ => fun
  | [d] => { results := [.lit (.bool true)], args := [d] }
  | _ => none }
def fnExactUnpackRow : OpenClaim := { program := "ytffbfnogdghkgaa", sum := "51f8bf45c23804671e7391524fbf8a50166816562b2cd6851588593e0be175d6", func := "loop.example/g00399/laws.FnExactUnpack", spec := "fnExactUnpack", apart := false }
def FnExactUnpackSaid : Prop := fnExactUnpackRow.holds Try.pinned (OpenSpec.ofChange fnExactUnpackSpec)

/-- ITS FALSE NEIGHBOUR: 'it returns false'. Refute it at one input. -/
def fnExactUnpackWrong : ChangeSpec := { name := "fnExactUnpack", fn := fun _ => fun
  | [d] => { results := [.lit (.bool false)], args := [d] }
  | _ => none }
def FnExactUnpackWrongFalsely : Prop := fnExactUnpackRow.holds Try.pinned (OpenSpec.ofChange fnExactUnpackWrong)

/-- 'laws.FnMessages': WHATEVER THE INPUT: true; the input reads as it did. -/
def fnMessagesSpec : ChangeSpec := { name := "fnMessages", fn := fun _ => fun
  | [d] => { results := [.lit (.bool true)], args := [d] }
  | _ => none }
def fnMessagesRow : OpenClaim := { program := "ytffbfnogdghkgaa", sum := "51f8bf45c23804671e7391524fbf8a50166816562b2cd6851588593e0be175d6", func := "loop.example/g00399/laws.FnMessages", spec := "fnMessages", apart := false }
def FnMessagesSaid : Prop := fnMessagesRow.holds Try.pinned (OpenSpec.ofChange fnMessagesSpec)

/-- ITS FALSE NEIGHBOUR: 'it returns false'. Refute it at one input. -/
def fnMessagesWrong : ChangeSpec := { name := "fnMessages", fn := fun _ => fun
  | [d] => { results := [.lit (.bool false)], args := [d] }
  | _ => none }
def FnMessagesWrongFalsely : Prop := fnMessagesRow.holds Try.pinned (OpenSpec.ofChange fnMessagesWrong)

/- THE SECOND FORM. 'bulk': how many values and letters a reading holds, each counted each time it is reached (what is shared counts as often as it is met; a slice's spare places count too). A statement '..UptoSaid' is the law's where the arguments, and the package variables that the reading takes, are together of bulk at most 1048576: NARROWER than '..Said'. Prove '..Said' where nothing that the law and all that it calls make is longer than what came in: it says more and counts as full. Else prove '..UptoSaid'. A law counts once. -/
mutual
def uptoBulk {H : Type} : DataW H → Nat
  | .lit (.string bytes) => bytes.length + 1
  | .lit _ => 1
  | .nil => 1
  | .ptr d => uptoBulk d + 1
  | .slice elems spare => uptoBulkAll elems + uptoBulkAll spare + 1
  | .agg parts => uptoBulkAll parts + 1
  | .iface _ d => uptoBulk d + 1
  | .map entries => uptoBulkEntries entries + 1
  | .held _ => 1
def uptoBulkAll {H : Type} : List (DataW H) → Nat
  | [] => 0
  | d :: r => uptoBulk d + uptoBulkAll r
def uptoBulkEntries {H : Type} : List (Lit × DataW H) → Nat
  | [] => 0
  | x :: r => uptoBulkEntry x + uptoBulkEntries r
def uptoBulkEntry {H : Type} : Lit × DataW H → Nat
  | (.string bytes, d) => bytes.length + uptoBulk d + 1
  | (_, d) => uptoBulk d + 1
 end
def uptoSmall : (H : Type) → List (DataW H) → Bool := fun _ ds => decide (uptoBulkAll ds ≤ 1048576)
def OpenSpec.upto (s : _root_.Go.ChangeSpec) : _root_.Go.OpenSpec := { _root_.Go.OpenSpec.ofChange s with cond := some uptoSmall }

/-- 'laws.FnExactDigits', WHERE WHAT IT READS IS OF BULK AT MOST 1048576: true; the input reads as it did. -/
def fnExactDigitsUptoRow : OpenClaim := { program := "ytffbfnogdghkgaa", sum := "51f8bf45c23804671e7391524fbf8a50166816562b2cd6851588593e0be175d6", func := "loop.example/g00399/laws.FnExactDigits", spec := "fnExactDigits", recurses := true, apart := false, narrowed := true }
def FnExactDigitsUptoSaid : Prop := fnExactDigitsUptoRow.holds Try.pinned (OpenSpec.upto fnExactDigitsSpec)

/-- 'laws.FnExactClear', WHERE WHAT IT READS IS OF BULK AT MOST 1048576: true; the input reads as it did. -/
def fnExactClearUptoRow : OpenClaim := { program := "ytffbfnogdghkgaa", sum := "51f8bf45c23804671e7391524fbf8a50166816562b2cd6851588593e0be175d6", func := "loop.example/g00399/laws.FnExactClear", spec := "fnExactClear", unfollowed := true, recurses := true, apart := false, narrowed := true }
def FnExactClearUptoSaid : Prop := fnExactClearUptoRow.holds Try.pinned (OpenSpec.upto fnExactClearSpec)

/-- 'laws.FnExactMsgOk', WHERE WHAT IT READS IS OF BULK AT MOST 1048576: true; the input reads as it did. -/
def fnExactMsgOkUptoRow : OpenClaim := { program := "ytffbfnogdghkgaa", sum := "51f8bf45c23804671e7391524fbf8a50166816562b2cd6851588593e0be175d6", func := "loop.example/g00399/laws.FnExactMsgOk", spec := "fnExactMsgOk", apart := false, narrowed := true }
def FnExactMsgOkUptoSaid : Prop := fnExactMsgOkUptoRow.holds Try.pinned (OpenSpec.upto fnExactMsgOkSpec)

/-- 'laws.FnExactSameMeta', WHERE WHAT IT READS IS OF BULK AT MOST 1048576: true; the input reads as it did. -/
def fnExactSameMetaUptoRow : OpenClaim := { program := "ytffbfnogdghkgaa", sum := "51f8bf45c23804671e7391524fbf8a50166816562b2cd6851588593e0be175d6", func := "loop.example/g00399/laws.FnExactSameMeta", spec := "fnExactSameMeta", unfollowed := true, recurses := true, apart := false, narrowed := true }
def FnExactSameMetaUptoSaid : Prop := fnExactSameMetaUptoRow.holds Try.pinned (OpenSpec.upto fnExactSameMetaSpec)

/-- 'laws.FnExactMetaOk', WHERE WHAT IT READS IS OF BULK AT MOST 1048576: true; the input reads as it did. -/
def fnExactMetaOkUptoRow : OpenClaim := { program := "ytffbfnogdghkgaa", sum := "51f8bf45c23804671e7391524fbf8a50166816562b2cd6851588593e0be175d6", func := "loop.example/g00399/laws.FnExactMetaOk", spec := "fnExactMetaOk", unfollowed := true, recurses := true, apart := false, narrowed := true }
def FnExactMetaOkUptoSaid : Prop := fnExactMetaOkUptoRow.holds Try.pinned (OpenSpec.upto fnExactMetaOkSpec)

/-- 'laws.FnMetas', WHERE WHAT IT READS IS OF BULK AT MOST 1048576: true; the input reads as it did. -/
def fnMetasUptoRow : OpenClaim := { program := "ytffbfnogdghkgaa", sum := "51f8bf45c23804671e7391524fbf8a50166816562b2cd6851588593e0be175d6", func := "loop.example/g00399/laws.FnMetas", spec := "fnMetas", unfollowed := true, recurses := true, apart := false, narrowed := true }
def FnMetasUptoSaid : Prop := fnMetasUptoRow.holds Try.pinned (OpenSpec.upto fnMetasSpec)

/-- 'laws.FnExactUnpack', WHERE WHAT IT READS IS OF BULK AT MOST 1048576: true; the input reads as it did. -/
def fnExactUnpackUptoRow : OpenClaim := { program := "ytffbfnogdghkgaa", sum := "51f8bf45c23804671e7391524fbf8a50166816562b2cd6851588593e0be175d6", func := "loop.example/g00399/laws.FnExactUnpack", spec := "fnExactUnpack", apart := false, narrowed := true }
def FnExactUnpackUptoSaid : Prop := fnExactUnpackUptoRow.holds Try.pinned (OpenSpec.upto fnExactUnpackSpec)

/-- 'laws.FnMessages', WHERE WHAT IT READS IS OF BULK AT MOST 1048576: true; the input reads as it did. -/
def fnMessagesUptoRow : OpenClaim := { program := "ytffbfnogdghkgaa", sum := "51f8bf45c23804671e7391524fbf8a50166816562b2cd6851588593e0be175d6", func := "loop.example/g00399/laws.FnMessages", spec := "fnMessages", apart := false, narrowed := true }
def FnMessagesUptoSaid : Prop := fnMessagesUptoRow.holds Try.pinned (OpenSpec.upto fnMessagesSpec)

end Rows
end Go.Proofs.Ytffbfnogdghkgaa
