/- Functions of the program as plain Lean functions, and their contracts, told by a program for this claim. No condition. -/
import Derived.Test.YtkejojcjmlnpgaaProg
import Derived.Test.YtkejojcjmlnpgaaMy
import Derived.Below
import Derived.Deep.Draws
import Derived.Deep.AppendLies
import Derived.Maps.AppendAt
import Derived.OwnWalk
import Derived.Laws.BytesArg
import Derived.Laws.MakeOwn
import Derived.Laws.OwnMore
import Derived.Deep.OwnRows
import Derived.Tactics
import Derived.Lib.ConvBytes
import Derived.Laws.Slices
import Derived.WalkKit
import Derived.KernelRfl
import Derived.RowKit3
import Derived.Deep.LoopGhost
import Derived.Deep.QuietTactic
import Derived.BigQuiet
import Derived.WideLaws
import Derived.Deep.DeepCutAuto
import Derived.Deep.CutBlock
import Derived.Deep.RegionHeld3
import Derived.Laws.Rows
import Derived.Lib.AppendStr
import Derived.ArgAppend
import Derived.Laws.IdiomCopy
import Derived.OrdersHeld
import Derived.Laws.BitsLemmas
import Derived.RowKit
import Derived.Test.YtkejojcjmlnpgaaWWords
import Derived.Test.YtkejojcjmlnpgaaWLast
import Derived.Test.YtkejojcjmlnpgaaWTab
import Derived.Test.YtkejojcjmlnpgaaWFour
import Derived.Test.YtkejojcjmlnpgaaWQPut
import Derived.Test.YtkejojcjmlnpgaaWApart
import Derived.Test.YtkejojcjmlnpgaaWArr
import Derived.Test.YtkejojcjmlnpgaaWZeros
import Derived.Test.YtkejojcjmlnpgaaWFoot
import Derived.Test.YtkejojcjmlnpgaaWKept
import Derived.Test.YtkejojcjmlnpgaaWShare
import Derived.Test.YtkejojcjmlnpgaaWN
import Derived.Test.YtkejojcjmlnpgaaWFootNe
import Derived.Test.YtkejojcjmlnpgaaWAt
import Derived.Test.YtkejojcjmlnpgaaWEqStruct
import Derived.Test.YtkejojcjmlnpgaaWRepsOne
import Derived.Test.YtkejojcjmlnpgaaWInv
import Derived.Test.YtkejojcjmlnpgaaWInvWords
import Derived.Test.YtkejojcjmlnpgaaWGuard
import Derived.Test.YtkejojcjmlnpgaaWNEv
import Derived.Test.YtkejojcjmlnpgaaWMore
namespace Go.Proofs.Ytkejojcjmlnpgaa.QFnSqueezeSmall
open Go.RowKit Go.Proofs.YtkejojcjmlnpgaaW.PrintWords Go.Proofs.YtkejojcjmlnpgaaW.PrintLast Go.Proofs.YtkejojcjmlnpgaaW.PrintMore
attribute [local go_sem] max2_int min2_int max_two min_two max_three min_three max_four min_four   -- for this text's walks alone
set_option linter.unusedVariables false
set_option linter.unusedSimpArgs false



def errW : Option Int → Value
  | none => .nilIface
  | some c => .iface 0 (.int .i64 c)
theorem errW_none : errW none = .nilIface := rfl
theorem errW_some (c : Int) : errW (some c) = .iface 0 (.int .i64 c) := rfl

theorem info3 : (Try.prog.info? 3).map (fun i => (i.zero, i.size, i.bytes)) = some (some (.int .i64 0), 1, 8) := by kernel_rfl
theorem info5 : (Try.prog.info? 5).map (fun i => (i.zero, i.size, i.bytes)) = some (some (.int .u8 0), 1, 1) := by kernel_rfl
-- the values' own types

end Go.Proofs.Ytkejojcjmlnpgaa.QFnSqueezeSmall
