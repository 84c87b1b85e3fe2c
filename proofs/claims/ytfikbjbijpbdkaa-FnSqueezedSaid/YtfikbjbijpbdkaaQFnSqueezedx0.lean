/- Functions of the program as plain Lean functions, and their contracts, told by a program for this claim. No condition. -/
import Derived.Test.YtfikbjbijpbdkaaProg
import Derived.Test.YtfikbjbijpbdkaaMy
import Derived.Below
import Derived.Deep.Draws
import Derived.Deep.AppendLies
import Derived.Maps.AppendAt
import Derived.OwnWalk
import Derived.Laws.BytesArg
import Derived.Laws.MakeOwn
import Derived.Laws.OwnMore
import Derived.Deep.OwnRows
import Derived.Tactics
import Derived.Lib.ConvBytes
import Derived.Laws.Slices
import Derived.WalkKit
import Derived.KernelRfl
import Derived.RowKit3
import Derived.Deep.LoopGhost
import Derived.Deep.QuietTactic
import Derived.BigQuiet
import Derived.WideLaws
import Derived.Deep.DeepCutAuto
import Derived.Deep.CutBlock
import Derived.Deep.RegionHeld3
import Derived.Laws.Rows
import Derived.Lib.AppendStr
import Derived.ArgAppend
import Derived.Laws.IdiomCopy
import Derived.OrdersHeld
import Derived.Laws.BitsLemmas
import Derived.RowKit
import Derived.Test.YtfikbjbijpbdkaaWWords
import Derived.Test.YtfikbjbijpbdkaaWLast
import Derived.Test.YtfikbjbijpbdkaaWTab
import Derived.Test.YtfikbjbijpbdkaaWFour
import Derived.Test.YtfikbjbijpbdkaaWQPut
import Derived.Test.YtfikbjbijpbdkaaWApart
import Derived.Test.YtfikbjbijpbdkaaWArr
import Derived.Test.YtfikbjbijpbdkaaWZeros
import Derived.Test.YtfikbjbijpbdkaaWFoot
import Derived.Test.YtfikbjbijpbdkaaWKept
import Derived.Test.YtfikbjbijpbdkaaWShare
import Derived.Test.YtfikbjbijpbdkaaWN
import Derived.Test.YtfikbjbijpbdkaaWFootNe
import Derived.Test.YtfikbjbijpbdkaaWAt
import Derived.Test.YtfikbjbijpbdkaaWEqStruct
import Derived.Test.YtfikbjbijpbdkaaWRepsOne
import Derived.Test.YtfikbjbijpbdkaaWInv
import Derived.Test.YtfikbjbijpbdkaaWInvWords
import Derived.Test.YtfikbjbijpbdkaaWGuard
import Derived.Test.YtfikbjbijpbdkaaWNEv
import Derived.Test.YtfikbjbijpbdkaaWMore
namespace Go.Proofs.Ytfikbjbijpbdkaa.QFnSqueezed
open Go.RowKit Go.Proofs.YtfikbjbijpbdkaaW.PrintWords Go.Proofs.YtfikbjbijpbdkaaW.PrintLast Go.Proofs.YtfikbjbijpbdkaaW.PrintMore Go.Proofs.Ytfikbjbijpbdkaa.My
attribute [local go_sem] max2_int min2_int max_two min_two max_three min_three max_four min_four   -- for this text's walks alone
set_option linter.unusedVariables false
set_option linter.unusedSimpArgs false



def errW : Option Int → Value
  | none => .nilIface
  | some c => .iface 0 (.int .i64 c)
theorem errW_none : errW none = .nilIface := rfl
theorem errW_some (c : Int) : errW (some c) = .iface 0 (.int .i64 c) := rfl

theorem info3 : (Try.prog.info? 3).map (fun i => (i.zero, i.size, i.bytes)) = some (some (.int .i64 0), 1, 8) := by kernel_rfl
theorem info5 : (Try.prog.info? 5).map (fun i => (i.zero, i.size, i.bytes)) = some (some (.int .u8 0), 1, 1) := by kernel_rfl
-- the values' own types

end Go.Proofs.Ytfikbjbijpbdkaa.QFnSqueezed
