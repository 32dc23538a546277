/- What is proved here: Go functions of the program come to what the Lean functions beside them tell. Conditions: those that each theorem names. (Written by wip/printx.py of this session, after the guide print.sh.) -/
import Derived.Test.YthjhjjhecokcdaaDoorProg
import Derived.Below
import Derived.Deep.Draws
import Derived.Deep.AppendLies
import Derived.Maps.AppendAt
import Derived.OwnWalk
import Derived.Laws.BytesArg
import Derived.Laws.MakeOwn
import Derived.Laws.OwnMore
import Derived.Deep.OwnRows
import Derived.Tactics
import Derived.Lib.ConvBytes
import Derived.Laws.Slices
import Derived.WalkKit
import Derived.KernelRfl
import Derived.RowKit3
import Derived.Deep.LoopGhost
import Derived.Deep.QuietTactic
import Derived.BigQuiet
import Derived.WideLaws
import Derived.Deep.DeepCutAuto
import Derived.Deep.CutBlock
import Derived.Deep.RegionHeld3
import Derived.Laws.Rows
import Derived.Lib.AppendStr
import Derived.ArgAppend
import Derived.Laws.IdiomCopy
import Derived.OrdersHeld
import Derived.Laws.BitsLemmas
import Derived.RowKit
import Derived.Lib.SliceRun
import Derived.IntWalk
import Derived.Lib.ConvBytes
import Derived.Sort.Row
import Derived.Laws.Runes
import Derived.Test.YthjhjjhecokcdaaDoorShelf
import Derived.Test.YthjhjjhecokcdaaDoorWWords
import Derived.Test.YthjhjjhecokcdaaDoorWLast
import Derived.Test.YthjhjjhecokcdaaDoorWTab
import Derived.Test.YthjhjjhecokcdaaDoorWFour
import Derived.Test.YthjhjjhecokcdaaDoorWQPut
import Derived.Test.YthjhjjhecokcdaaDoorWApart
import Derived.Test.YthjhjjhecokcdaaDoorWArr
import Derived.Test.YthjhjjhecokcdaaDoorWZeros
import Derived.Test.YthjhjjhecokcdaaDoorWFoot
import Derived.Test.YthjhjjhecokcdaaDoorWKept
import Derived.Test.YthjhjjhecokcdaaDoorWShare
import Derived.Test.YthjhjjhecokcdaaDoorWN
import Derived.Test.YthjhjjhecokcdaaDoorWFootNe
import Derived.Test.YthjhjjhecokcdaaDoorWAt
import Derived.Test.YthjhjjhecokcdaaDoorWEqStruct
import Derived.Test.YthjhjjhecokcdaaDoorWRepsOne
import Derived.Test.YthjhjjhecokcdaaDoorWInv
import Derived.Test.YthjhjjhecokcdaaDoorWInvWords
import Derived.Test.YthjhjjhecokcdaaDoorWGuard
import Derived.Test.YthjhjjhecokcdaaDoorWNEv
import Derived.Test.YthjhjjhecokcdaaDoorWMore
namespace Go.Proofs.YthjhjjhecokcdaaDoor.PCyc
open Go.RowKit Go.Proofs.YthjhjjhecokcdaaDoorW.PrintWords Go.Proofs.YthjhjjhecokcdaaDoorW.PrintLast Go.Proofs.YthjhjjhecokcdaaDoorW.PrintMore
attribute [local go_sem] max2_int min2_int max_two min_two max_three min_three max_four min_four   -- for this text's walks alone
set_option linter.unusedVariables false
set_option linter.unusedSimpArgs false



def errW : Option Int → Value
  | none => .nilIface
  | some c => .iface 0 (.int .i64 c)
theorem errW_none : errW none = .nilIface := rfl
theorem errW_some (c : Int) : errW (some c) = .iface 0 (.int .i64 c) := rfl

theorem info5 : (Tryd.prog.info? 5).map (fun i => (i.zero, i.size, i.bytes)) = some (some (.int .u8 0), 1, 1) := by kernel_rfl
theorem info26 : (Tryd.prog.info? 26).map (fun i => (i.zero, i.size, i.bytes)) = some (some (.int .i64 0), 1, 8) := by kernel_rfl
-- the values' own types

end Go.Proofs.YthjhjjhecokcdaaDoor.PCyc
