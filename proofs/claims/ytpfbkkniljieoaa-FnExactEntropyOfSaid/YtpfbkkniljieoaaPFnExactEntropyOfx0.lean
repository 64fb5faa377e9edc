-- Written by a turned copy of the kit's printer (wip/pf).
import Derived.Test.YtpfbkkniljieoaaProg
import Derived.Below
import Derived.Deep.Draws
import Derived.Deep.AppendLies
import Derived.Maps.AppendAt
import Derived.OwnWalk
import Derived.Laws.BytesArg
import Derived.Laws.MakeOwn
import Derived.Laws.OwnMore
import Derived.Deep.OwnRows
import Derived.Tactics
import Derived.Lib.ConvBytes
import Derived.Laws.Slices
import Derived.WalkKit
import Derived.KernelRfl
import Derived.RowKit3
import Derived.Deep.LoopGhost
import Derived.Deep.QuietTactic
import Derived.BigQuiet
import Derived.WideLaws
import Derived.Deep.DeepCutAuto
import Derived.Deep.CutBlock
import Derived.Deep.RegionHeld3
import Derived.Laws.Rows
import Derived.Lib.AppendStr
import Derived.ArgAppend
import Derived.Laws.IdiomCopy
import Derived.OrdersHeld
import Derived.Laws.BitsLemmas
import Derived.RowKit
import Derived.Maps.OwnOps
import Derived.Maps.OwnSet
import Derived.Test.YtpfbkkniljieoaaWWords
import Derived.Test.YtpfbkkniljieoaaWLast
import Derived.Test.YtpfbkkniljieoaaWTab
import Derived.Test.YtpfbkkniljieoaaWFour
import Derived.Test.YtpfbkkniljieoaaWQPut
import Derived.Test.YtpfbkkniljieoaaWApart
import Derived.Test.YtpfbkkniljieoaaWArr
import Derived.Test.YtpfbkkniljieoaaWZeros
import Derived.Test.YtpfbkkniljieoaaWFoot
import Derived.Test.YtpfbkkniljieoaaWKept
import Derived.Test.YtpfbkkniljieoaaWShare
import Derived.Test.YtpfbkkniljieoaaWN
import Derived.Test.YtpfbkkniljieoaaWFootNe
import Derived.Test.YtpfbkkniljieoaaWAt
import Derived.Test.YtpfbkkniljieoaaWEqStruct
import Derived.Test.YtpfbkkniljieoaaWRepsOne
import Derived.Test.YtpfbkkniljieoaaWInv
import Derived.Test.YtpfbkkniljieoaaWInvWords
import Derived.Test.YtpfbkkniljieoaaWGuard
import Derived.Test.YtpfbkkniljieoaaWNEv
import Derived.Test.YtpfbkkniljieoaaWMore
import Derived.Test.YtpfbkkniljieoaaWFloat
namespace Go.Proofs.Ytpfbkkniljieoaa.PFnExactEntropyOf
open Go.RowKit Go.Proofs.YtpfbkkniljieoaaW.PrintWords Go.Proofs.YtpfbkkniljieoaaW.PrintLast Go.Proofs.YtpfbkkniljieoaaW.PrintMore
attribute [local go_sem] max2_int min2_int max_two min_two max_three min_three max_four min_four   -- for this text's walks alone
attribute [local go_sem high] feq_fold fne_fold flt_fold fle_fold fgt_fold fge_fold fneg_run fsame_run fstore_run
set_option linter.unusedVariables false
set_option linter.unusedSimpArgs false



def errW : Option Int → Value
  | none => .nilIface
  | some c => .iface 0 (.int .i64 c)
theorem errW_none : errW none = .nilIface := rfl
theorem errW_some (c : Int) : errW (some c) = .iface 0 (.int .i64 c) := rfl

theorem info2 : (Try.prog.info? 2).map (fun i => (i.zero, i.size, i.bytes)) = some (some (.int .i64 0), 1, 8) := by kernel_rfl
-- the values' own types

end Go.Proofs.Ytpfbkkniljieoaa.PFnExactEntropyOf
