/-
  No cell of these rows narrows 'for every input' (looked for: loops, veiled, ifaces, maps, wideKeys, modest, calm, conditions, laid).
  DERIVED. THE GIVEN ROWS OF THIS SEAT. 8 by the template 'for every input the law returns true; each argument reads behind the call as it read before'; 0 by the template 'total and deterministic' (their statements: YtbhonnfinekpcaaTotals.lean).
  GIVEN WITH THE SEED: the statements are not yours to turn. If you find one false, say at which input.
  Laid BY PROGRAM, IN A SANDBOX (cutbox-rows.mjs): the forced cells as the released guide's own fill.sh prints them over the translation b3aa316d36467570… (all of the seat's roots in one cut). By AI agents, Wed Nov 11 2026. No macro, syntax, notation, axiom, sorry.
-/
import Derived.Test.YtbhonnfinekpcaaChecked
import GoSem.Claim
import GoSem.ClaimJoined
import GoSem.ClaimMapViews
import Derived.JoinedTies
import Derived.KernelRfl
namespace Go.Proofs.Ytbhonnfinekpcaa
/- THE CELL 'sum', in the pinned program and in every row, IS THE sha256 OF THE DUMP (.gsa) THAT YtbhonnfinekpcaaProg.lean LOADS. Nothing in Lean hashes anything: it is a label: what it is worth is what the hold of that sum in a sandbox is worth. -/
noncomputable def Try.pinned : Pinned := { name := "ytbhonnfinekpcaa", sum := "b3aa316d36467570f5b70fc33e5db2fa47947cf3fee6695262a33dbbd1f6b38c", checked := Try.checked }
namespace Rows
def none {H : Type} : Left H := { results := [], args := [] }

/-- 'laws.FnTorn': WHATEVER THE INPUT: true; the input reads as it did. -/
def fnTornSpec : ChangeSpec := { name := "fnTorn", fn := fun _ => fun
  | [d] => { results := [.lit (.bool true)], args := [d] }
  | _ => none }
def fnTornRow : OpenClaim := { program := "ytbhonnfinekpcaa", sum := "b3aa316d36467570f5b70fc33e5db2fa47947cf3fee6695262a33dbbd1f6b38c", func := "loop.example/g00399/laws.FnTorn", spec := "fnTorn", unfollowed := true, recurses := true, apart := false }
def FnTornSaid : Prop := fnTornRow.holds Try.pinned (OpenSpec.ofChange fnTornSpec)

/-- ITS FALSE NEIGHBOUR: 'it returns false'. Refute it at one input. -/
def fnTornWrong : ChangeSpec := { name := "fnTorn", fn := fun _ => fun
  | [d] => { results := [.lit (.bool false)], args := [d] }
  | _ => none }
def FnTornWrongFalsely : Prop := fnTornRow.holds Try.pinned (OpenSpec.ofChange fnTornWrong)

/-- 'laws.FnExactSlotOf': WHATEVER THE INPUT: true; the input reads as it did. -/
def fnExactSlotOfSpec : ChangeSpec := { name := "fnExactSlotOf", fn := fun _ => fun
  | [d] => { results := [.lit (.bool true)], args := [d] }
  | _ => none }
def fnExactSlotOfRow : OpenClaim := { program := "ytbhonnfinekpcaa", sum := "b3aa316d36467570f5b70fc33e5db2fa47947cf3fee6695262a33dbbd1f6b38c", func := "loop.example/g00399/laws.FnExactSlotOf", spec := "fnExactSlotOf", unfollowed := true, recurses := true, apart := false }
def FnExactSlotOfSaid : Prop := fnExactSlotOfRow.holds Try.pinned (OpenSpec.ofChange fnExactSlotOfSpec)

/-- ITS FALSE NEIGHBOUR: 'it returns false'. Refute it at one input. -/
def fnExactSlotOfWrong : ChangeSpec := { name := "fnExactSlotOf", fn := fun _ => fun
  | [d] => { results := [.lit (.bool false)], args := [d] }
  | _ => none }
def FnExactSlotOfWrongFalsely : Prop := fnExactSlotOfRow.holds Try.pinned (OpenSpec.ofChange fnExactSlotOfWrong)

/-- 'laws.FnExactSlotGet': WHATEVER THE INPUT: true; the input reads as it did. -/
def fnExactSlotGetSpec : ChangeSpec := { name := "fnExactSlotGet", fn := fun _ => fun
  | [d] => { results := [.lit (.bool true)], args := [d] }
  | _ => none }
def fnExactSlotGetRow : OpenClaim := { program := "ytbhonnfinekpcaa", sum := "b3aa316d36467570f5b70fc33e5db2fa47947cf3fee6695262a33dbbd1f6b38c", func := "loop.example/g00399/laws.FnExactSlotGet", spec := "fnExactSlotGet", unfollowed := true, recurses := true, apart := false }
def FnExactSlotGetSaid : Prop := fnExactSlotGetRow.holds Try.pinned (OpenSpec.ofChange fnExactSlotGetSpec)

/-- ITS FALSE NEIGHBOUR: 'it returns false'. Refute it at one input. -/
def fnExactSlotGetWrong : ChangeSpec := { name := "fnExactSlotGet", fn := fun _ => fun
  | [d] => { results := [.lit (.bool false)], args := [d] }
  | _ => none }
def FnExactSlotGetWrongFalsely : Prop := fnExactSlotGetRow.holds Try.pinned (OpenSpec.ofChange fnExactSlotGetWrong)

/-- 'laws.FnSlots': WHATEVER THE INPUT: true; the input reads as it did. -/
def fnSlotsSpec : ChangeSpec := { name := "fnSlots", fn := fun _ => fun
  | [d] => { results := [.lit (.bool true)], args := [d] }
  | _ => none }
def fnSlotsRow : OpenClaim := { program := "ytbhonnfinekpcaa", sum := "b3aa316d36467570f5b70fc33e5db2fa47947cf3fee6695262a33dbbd1f6b38c", func := "loop.example/g00399/laws.FnSlots", spec := "fnSlots", unfollowed := true, recurses := true, apart := false }
def FnSlotsSaid : Prop := fnSlotsRow.holds Try.pinned (OpenSpec.ofChange fnSlotsSpec)

/-- ITS FALSE NEIGHBOUR: 'it returns false'. Refute it at one input. -/
def fnSlotsWrong : ChangeSpec := { name := "fnSlots", fn := fun _ => fun
  | [d] => { results := [.lit (.bool false)], args := [d] }
  | _ => none }
def FnSlotsWrongFalsely : Prop := fnSlotsRow.holds Try.pinned (OpenSpec.ofChange fnSlotsWrong)

/-- 'laws.FnExactSlotPut': WHATEVER THE INPUT: true; the input reads as it did. -/
def fnExactSlotPutSpec : ChangeSpec := { name := "fnExactSlotPut", fn := fun _ => fun
  | [d1, d2] => { results := [.lit (.bool true)], args := [d1, d2] }
  | _ => none }
def fnExactSlotPutRow : OpenClaim := { program := "ytbhonnfinekpcaa", sum := "b3aa316d36467570f5b70fc33e5db2fa47947cf3fee6695262a33dbbd1f6b38c", func := "loop.example/g00399/laws.FnExactSlotPut", spec := "fnExactSlotPut", unfollowed := true, recurses := true, apart := false }
def FnExactSlotPutSaid : Prop := fnExactSlotPutRow.holds Try.pinned (OpenSpec.ofChange fnExactSlotPutSpec)

/-- ITS FALSE NEIGHBOUR: 'it returns false'. Refute it at one input. -/
def fnExactSlotPutWrong : ChangeSpec := { name := "fnExactSlotPut", fn := fun _ => fun
  | [d1, d2] => { results := [.lit (.bool false)], args := [d1, d2] }
  | _ => none }
def FnExactSlotPutWrongFalsely : Prop := fnExactSlotPutRow.holds Try.pinned (OpenSpec.ofChange fnExactSlotPutWrong)

/-- 'laws.FnExactTear': WHATEVER THE INPUT: true; the input reads as it did. -/
def fnExactTearSpec : ChangeSpec := { name := "fnExactTear", fn := fun _ => fun
  | [d1, d2, d3] => { results := [.lit (.bool true)], args := [d1, d2, d3] }
  | _ => none }
def fnExactTearRow : OpenClaim := { program := "ytbhonnfinekpcaa", sum := "b3aa316d36467570f5b70fc33e5db2fa47947cf3fee6695262a33dbbd1f6b38c", func := "loop.example/g00399/laws.FnExactTear", spec := "fnExactTear", unfollowed := true, recurses := true, apart := false }
def FnExactTearSaid : Prop := fnExactTearRow.holds Try.pinned (OpenSpec.ofChange fnExactTearSpec)

/-- ITS FALSE NEIGHBOUR: 'it returns false'. Refute it at one input. -/
def fnExactTearWrong : ChangeSpec := { name := "fnExactTear", fn := fun _ => fun
  | [d1, d2, d3] => { results := [.lit (.bool false)], args := [d1, d2, d3] }
  | _ => none }
def FnExactTearWrongFalsely : Prop := fnExactTearRow.holds Try.pinned (OpenSpec.ofChange fnExactTearWrong)

/-- 'laws.FnExactNodeNew': WHATEVER THE INPUT: true; the input reads as it did. -/
def fnExactNodeNewSpec : ChangeSpec := { name := "fnExactNodeNew", fn := fun _ => fun
  | [d] => { results := [.lit (.bool true)], args := [d] }
  | _ => none }
def fnExactNodeNewRow : OpenClaim := { program := "ytbhonnfinekpcaa", sum := "b3aa316d36467570f5b70fc33e5db2fa47947cf3fee6695262a33dbbd1f6b38c", func := "loop.example/g00399/laws.FnExactNodeNew", spec := "fnExactNodeNew", unfollowed := true, recurses := true, apart := false }
def FnExactNodeNewSaid : Prop := fnExactNodeNewRow.holds Try.pinned (OpenSpec.ofChange fnExactNodeNewSpec)

/-- ITS FALSE NEIGHBOUR: 'it returns false'. Refute it at one input. -/
def fnExactNodeNewWrong : ChangeSpec := { name := "fnExactNodeNew", fn := fun _ => fun
  | [d] => { results := [.lit (.bool false)], args := [d] }
  | _ => none }
def FnExactNodeNewWrongFalsely : Prop := fnExactNodeNewRow.holds Try.pinned (OpenSpec.ofChange fnExactNodeNewWrong)

/-- 'laws.FnExactNodeOk': WHATEVER THE INPUT: true; the input reads as it did. -/
def fnExactNodeOkSpec : ChangeSpec := { name := "fnExactNodeOk", fn := fun _ => fun
  | [d] => { results := [.lit (.bool true)], args := [d] }
  | _ => none }
def fnExactNodeOkRow : OpenClaim := { program := "ytbhonnfinekpcaa", sum := "b3aa316d36467570f5b70fc33e5db2fa47947cf3fee6695262a33dbbd1f6b38c", func := "loop.example/g00399/laws.FnExactNodeOk", spec := "fnExactNodeOk", unfollowed := true, recurses := true, apart := false }
def FnExactNodeOkSaid : Prop := fnExactNodeOkRow.holds Try.pinned (OpenSpec.ofChange fnExactNodeOkSpec)

/-- ITS FALSE NEIGHBOUR: 'it returns false'. Refute it at one input. -/
def fnExactNodeOkWrong : ChangeSpec := { name := "fnExactNodeOk", fn := fun _ => fun
  | [d] => { results := [.lit (.bool false)], args := [d] }
  | _ => none }
def FnExactNodeOkWrongFalsely : Prop := fnExactNodeOkRow.holds Try.pinned (OpenSpec.ofChange fnExactNodeOkWrong)

/- THE SECOND FORM. 'bulk': how many values and letters a reading holds, each counted each time it is reached (what is shared counts as often as it is met; a slice's spare places count too). A statement '..UptoSaid' is the law's where the arguments, and the package variables that the reading takes, are together of bulk at most 1048576: NARROWER than '..Said'. Prove '..Said' where nothing that the law and all that it calls make is longer than what came in: it says more and counts as full. Else prove '..UptoSaid'. A law counts once. -/
mutual
def uptoBulk {H : Type} : DataW H → Nat
  | .lit (.string bytes) => bytes.length + 1
  | .lit _ => 1
  | .nil => 1
  | .ptr d => uptoBulk d + 1
  | .slice elems spare => uptoBulkAll elems + uptoBulkAll spare + 1
  | .agg parts => uptoBulkAll parts + 1
  | .iface _ d => uptoBulk d + 1
  | .map entries => uptoBulkEntries entries + 1
  | .held _ => 1
def uptoBulkAll {H : Type} : List (DataW H) → Nat
  | [] => 0
  | d :: r => uptoBulk d + uptoBulkAll r
def uptoBulkEntries {H : Type} : List (Lit × DataW H) → Nat
  | [] => 0
  | x :: r => uptoBulkEntry x + uptoBulkEntries r
def uptoBulkEntry {H : Type} : Lit × DataW H → Nat
  | (.string bytes, d) => bytes.length + uptoBulk d + 1
  | (_, d) => uptoBulk d + 1
 end
def uptoSmall : (H : Type) → List (DataW H) → Bool := fun _ ds => decide (uptoBulkAll ds ≤ 1048576)
def OpenSpec.upto (s : _root_.Go.ChangeSpec) : _root_.Go.OpenSpec := { _root_.Go.OpenSpec.ofChange s with cond := some uptoSmall }

/-- 'laws.FnTorn', WHERE WHAT IT READS IS OF BULK AT MOST 1048576: true; the input reads as it did. -/
def fnTornUptoRow : OpenClaim := { program := "ytbhonnfinekpcaa", sum := "b3aa316d36467570f5b70fc33e5db2fa47947cf3fee6695262a33dbbd1f6b38c", func := "loop.example/g00399/laws.FnTorn", spec := "fnTorn", unfollowed := true, recurses := true, apart := false, narrowed := true }
def FnTornUptoSaid : Prop := fnTornUptoRow.holds Try.pinned (OpenSpec.upto fnTornSpec)

/-- 'laws.FnExactSlotOf', WHERE WHAT IT READS IS OF BULK AT MOST 1048576: true; the input reads as it did. -/
def fnExactSlotOfUptoRow : OpenClaim := { program := "ytbhonnfinekpcaa", sum := "b3aa316d36467570f5b70fc33e5db2fa47947cf3fee6695262a33dbbd1f6b38c", func := "loop.example/g00399/laws.FnExactSlotOf", spec := "fnExactSlotOf", unfollowed := true, recurses := true, apart := false, narrowed := true }
def FnExactSlotOfUptoSaid : Prop := fnExactSlotOfUptoRow.holds Try.pinned (OpenSpec.upto fnExactSlotOfSpec)

/-- 'laws.FnExactSlotGet', WHERE WHAT IT READS IS OF BULK AT MOST 1048576: true; the input reads as it did. -/
def fnExactSlotGetUptoRow : OpenClaim := { program := "ytbhonnfinekpcaa", sum := "b3aa316d36467570f5b70fc33e5db2fa47947cf3fee6695262a33dbbd1f6b38c", func := "loop.example/g00399/laws.FnExactSlotGet", spec := "fnExactSlotGet", unfollowed := true, recurses := true, apart := false, narrowed := true }
def FnExactSlotGetUptoSaid : Prop := fnExactSlotGetUptoRow.holds Try.pinned (OpenSpec.upto fnExactSlotGetSpec)

/-- 'laws.FnSlots', WHERE WHAT IT READS IS OF BULK AT MOST 1048576: true; the input reads as it did. -/
def fnSlotsUptoRow : OpenClaim := { program := "ytbhonnfinekpcaa", sum := "b3aa316d36467570f5b70fc33e5db2fa47947cf3fee6695262a33dbbd1f6b38c", func := "loop.example/g00399/laws.FnSlots", spec := "fnSlots", unfollowed := true, recurses := true, apart := false, narrowed := true }
def FnSlotsUptoSaid : Prop := fnSlotsUptoRow.holds Try.pinned (OpenSpec.upto fnSlotsSpec)

/-- 'laws.FnExactSlotPut', WHERE WHAT IT READS IS OF BULK AT MOST 1048576: true; the input reads as it did. -/
def fnExactSlotPutUptoRow : OpenClaim := { program := "ytbhonnfinekpcaa", sum := "b3aa316d36467570f5b70fc33e5db2fa47947cf3fee6695262a33dbbd1f6b38c", func := "loop.example/g00399/laws.FnExactSlotPut", spec := "fnExactSlotPut", unfollowed := true, recurses := true, apart := false, narrowed := true }
def FnExactSlotPutUptoSaid : Prop := fnExactSlotPutUptoRow.holds Try.pinned (OpenSpec.upto fnExactSlotPutSpec)

/-- 'laws.FnExactTear', WHERE WHAT IT READS IS OF BULK AT MOST 1048576: true; the input reads as it did. -/
def fnExactTearUptoRow : OpenClaim := { program := "ytbhonnfinekpcaa", sum := "b3aa316d36467570f5b70fc33e5db2fa47947cf3fee6695262a33dbbd1f6b38c", func := "loop.example/g00399/laws.FnExactTear", spec := "fnExactTear", unfollowed := true, recurses := true, apart := false, narrowed := true }
def FnExactTearUptoSaid : Prop := fnExactTearUptoRow.holds Try.pinned (OpenSpec.upto fnExactTearSpec)

/-- 'laws.FnExactNodeNew', WHERE WHAT IT READS IS OF BULK AT MOST 1048576: true; the input reads as it did. -/
def fnExactNodeNewUptoRow : OpenClaim := { program := "ytbhonnfinekpcaa", sum := "b3aa316d36467570f5b70fc33e5db2fa47947cf3fee6695262a33dbbd1f6b38c", func := "loop.example/g00399/laws.FnExactNodeNew", spec := "fnExactNodeNew", unfollowed := true, recurses := true, apart := false, narrowed := true }
def FnExactNodeNewUptoSaid : Prop := fnExactNodeNewUptoRow.holds Try.pinned (OpenSpec.upto fnExactNodeNewSpec)

/-- 'laws.FnExactNodeOk', WHERE WHAT IT READS IS OF BULK AT MOST 1048576: true; the input reads as it did. -/
def fnExactNodeOkUptoRow : OpenClaim := { program := "ytbhonnfinekpcaa", sum := "b3aa316d36467570f5b70fc33e5db2fa47947cf3fee6695262a33dbbd1f6b38c", func := "loop.example/g00399/laws.FnExactNodeOk", spec := "fnExactNodeOk", unfollowed := true, recurses := true, apart := false, narrowed := true }
def FnExactNodeOkUptoSaid : Prop := fnExactNodeOkUptoRow.holds Try.pinned (OpenSpec.upto fnExactNodeOkSpec)

end Rows
end Go.Proofs.Ytbhonnfinekpcaa
