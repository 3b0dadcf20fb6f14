-- laid by a program of the session (its own copy of the print, with texts of its own laid in)
import Derived.Test.YteenpfdpokekgaaProg
import Derived.Below
import Derived.Deep.Draws
import Derived.Deep.AppendLies
import Derived.Maps.AppendAt
import Derived.OwnWalk
import Derived.Laws.BytesArg
import Derived.Laws.MakeOwn
import Derived.Laws.OwnMore
import Derived.Deep.OwnRows
import Derived.Tactics
import Derived.Lib.ConvBytes
import Derived.Laws.Slices
import Derived.WalkKit
import Derived.KernelRfl
import Derived.RowKit3
import Derived.Deep.LoopGhost
import Derived.Deep.QuietTactic
import Derived.BigQuiet
import Derived.WideLaws
import Derived.Deep.DeepCutAuto
import Derived.Deep.CutBlock
import Derived.Deep.RegionHeld3
import Derived.Laws.Rows
import Derived.Lib.AppendStr
import Derived.ArgAppend
import Derived.Laws.IdiomCopy
import Derived.OrdersHeld
import Derived.Laws.BitsLemmas
import Derived.RowKit
import Derived.Test.YteenpfdpokekgaaWWords
import Derived.Test.YteenpfdpokekgaaWLast
import Derived.Test.YteenpfdpokekgaaWTab
import Derived.Test.YteenpfdpokekgaaWFour
import Derived.Test.YteenpfdpokekgaaWQPut
import Derived.Test.YteenpfdpokekgaaWApart
import Derived.Test.YteenpfdpokekgaaWArr
import Derived.Test.YteenpfdpokekgaaWZeros
import Derived.Test.YteenpfdpokekgaaWFoot
import Derived.Test.YteenpfdpokekgaaWKept
import Derived.Test.YteenpfdpokekgaaWShare
import Derived.Test.YteenpfdpokekgaaWN
import Derived.Test.YteenpfdpokekgaaWFootNe
import Derived.Test.YteenpfdpokekgaaWAt
import Derived.Test.YteenpfdpokekgaaWEqStruct
import Derived.Test.YteenpfdpokekgaaWRepsOne
import Derived.Test.YteenpfdpokekgaaWInv
import Derived.Test.YteenpfdpokekgaaWInvWords
import Derived.Test.YteenpfdpokekgaaWGuard
import Derived.Test.YteenpfdpokekgaaWNEv
import Derived.Test.YteenpfdpokekgaaWMore
namespace Go.Proofs.Yteenpfdpokekgaa.PS0
open Go.RowKit Go.Proofs.YteenpfdpokekgaaW.PrintWords Go.Proofs.YteenpfdpokekgaaW.PrintLast Go.Proofs.YteenpfdpokekgaaW.PrintMore
attribute [local go_sem] max2_int min2_int max_two min_two max_three min_three max_four min_four   -- for this text's walks alone
set_option linter.unusedVariables false
set_option linter.unusedSimpArgs false



def errW : Option Int → Value
  | none => .nilIface
  | some c => .iface 0 (.int .i64 c)
theorem errW_none : errW none = .nilIface := rfl
theorem errW_some (c : Int) : errW (some c) = .iface 0 (.int .i64 c) := rfl

-- the values' own types

end Go.Proofs.Yteenpfdpokekgaa.PS0
