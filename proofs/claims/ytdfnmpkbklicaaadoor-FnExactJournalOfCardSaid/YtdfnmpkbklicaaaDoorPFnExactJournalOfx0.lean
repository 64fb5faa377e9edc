-- Written by a turned copy of the kit's printer (wip/pf).
import Derived.Test.YtdfnmpkbklicaaaDoorProg
import Derived.Below
import Derived.Deep.Draws
import Derived.Deep.AppendLies
import Derived.Maps.AppendAt
import Derived.OwnWalk
import Derived.Laws.BytesArg
import Derived.Laws.MakeOwn
import Derived.Laws.OwnMore
import Derived.Deep.OwnRows
import Derived.Tactics
import Derived.Lib.ConvBytes
import Derived.Laws.Slices
import Derived.WalkKit
import Derived.KernelRfl
import Derived.RowKit3
import Derived.Deep.LoopGhost
import Derived.Deep.QuietTactic
import Derived.BigQuiet
import Derived.WideLaws
import Derived.Deep.DeepCutAuto
import Derived.Deep.CutBlock
import Derived.Deep.RegionHeld3
import Derived.Laws.Rows
import Derived.Lib.AppendStr
import Derived.ArgAppend
import Derived.Laws.IdiomCopy
import Derived.OrdersHeld
import Derived.Laws.BitsLemmas
import Derived.RowKit
import Derived.Maps.OwnOps
import Derived.Maps.OwnSet
import Derived.Test.YtdfnmpkbklicaaaDoorWWords
import Derived.Test.YtdfnmpkbklicaaaDoorWLast
import Derived.Test.YtdfnmpkbklicaaaDoorWTab
import Derived.Test.YtdfnmpkbklicaaaDoorWFour
import Derived.Test.YtdfnmpkbklicaaaDoorWQPut
import Derived.Test.YtdfnmpkbklicaaaDoorWApart
import Derived.Test.YtdfnmpkbklicaaaDoorWArr
import Derived.Test.YtdfnmpkbklicaaaDoorWZeros
import Derived.Test.YtdfnmpkbklicaaaDoorWFoot
import Derived.Test.YtdfnmpkbklicaaaDoorWKept
import Derived.Test.YtdfnmpkbklicaaaDoorWShare
import Derived.Test.YtdfnmpkbklicaaaDoorWN
import Derived.Test.YtdfnmpkbklicaaaDoorWFootNe
import Derived.Test.YtdfnmpkbklicaaaDoorWAt
import Derived.Test.YtdfnmpkbklicaaaDoorWEqStruct
import Derived.Test.YtdfnmpkbklicaaaDoorWRepsOne
import Derived.Test.YtdfnmpkbklicaaaDoorWInv
import Derived.Test.YtdfnmpkbklicaaaDoorWInvWords
import Derived.Test.YtdfnmpkbklicaaaDoorWGuard
import Derived.Test.YtdfnmpkbklicaaaDoorWNEv
import Derived.Test.YtdfnmpkbklicaaaDoorWMore
import Derived.Test.YtdfnmpkbklicaaaDoorWFloat
import Derived.Test.YtdfnmpkbklicaaaDoorShelf
import Derived.Lib.SmallJoins
import Derived.Lib.AppendIntMem
import Derived.Shelf.Strings.MapGrows
namespace Go.Proofs.YtdfnmpkbklicaaaDoor.PFnExactJournalOf
open Go.RowKit Go.Proofs.YtdfnmpkbklicaaaDoorW.PrintWords Go.Proofs.YtdfnmpkbklicaaaDoorW.PrintLast Go.Proofs.YtdfnmpkbklicaaaDoorW.PrintMore
attribute [local go_sem] max2_int min2_int max_two min_two max_three min_three max_four min_four   -- for this text's walks alone
attribute [local go_sem high] feq_fold fne_fold flt_fold fle_fold fgt_fold fge_fold fneg_run fsame_run fstore_run
set_option linter.unusedVariables false
set_option linter.unusedSimpArgs false



def errW : Option Int → Value
  | none => .nilIface
  | some c => .iface 0 (.int .i64 c)
theorem errW_none : errW none = .nilIface := rfl
theorem errW_some (c : Int) : errW (some c) = .iface 0 (.int .i64 c) := rfl

theorem info5 : (Tryd.prog.info? 5).map (fun i => (i.zero, i.size, i.bytes)) = some (some (.int .u8 0), 1, 1) := by kernel_rfl
theorem info9 : (Tryd.prog.info? 9).map (fun i => (i.zero, i.size, i.bytes)) = some (some (.string ⟨#[]⟩), 1, 16) := by kernel_rfl
-- the values' own types

end Go.Proofs.YtdfnmpkbklicaaaDoor.PFnExactJournalOf
