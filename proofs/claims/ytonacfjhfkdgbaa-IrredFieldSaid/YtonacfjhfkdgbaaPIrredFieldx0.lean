-- by wip/printx.py of this session, after the guide's print.sh
import Derived.Test.YtonacfjhfkdgbaaProg
import Derived.Below
import Derived.Deep.Draws
import Derived.Deep.AppendLies
import Derived.Maps.AppendAt
import Derived.OwnWalk
import Derived.Laws.BytesArg
import Derived.Laws.MakeOwn
import Derived.Laws.OwnMore
import Derived.Deep.OwnRows
import Derived.Tactics
import Derived.Lib.ConvBytes
import Derived.Laws.Slices
import Derived.WalkKit
import Derived.KernelRfl
import Derived.RowKit3
import Derived.Deep.LoopGhost
import Derived.Deep.QuietTactic
import Derived.BigQuiet
import Derived.WideLaws
import Derived.Deep.DeepCutAuto
import Derived.Deep.CutBlock
import Derived.Deep.RegionHeld3
import Derived.Laws.Rows
import Derived.Lib.AppendStr
import Derived.ArgAppend
import Derived.Laws.IdiomCopy
import Derived.OrdersHeld
import Derived.Laws.BitsLemmas
import Derived.RowKit
import Derived.Lib.SliceRun
import Derived.Outline
import Derived.Test.YtonacfjhfkdgbaaWWords
import Derived.Test.YtonacfjhfkdgbaaWLast
import Derived.Test.YtonacfjhfkdgbaaWTab
import Derived.Test.YtonacfjhfkdgbaaWFour
import Derived.Test.YtonacfjhfkdgbaaWQPut
import Derived.Test.YtonacfjhfkdgbaaWApart
import Derived.Test.YtonacfjhfkdgbaaWArr
import Derived.Test.YtonacfjhfkdgbaaWZeros
import Derived.Test.YtonacfjhfkdgbaaWFoot
import Derived.Test.YtonacfjhfkdgbaaWKept
import Derived.Test.YtonacfjhfkdgbaaWShare
import Derived.Test.YtonacfjhfkdgbaaWN
import Derived.Test.YtonacfjhfkdgbaaWFootNe
import Derived.Test.YtonacfjhfkdgbaaWAt
import Derived.Test.YtonacfjhfkdgbaaWEqStruct
import Derived.Test.YtonacfjhfkdgbaaWRepsOne
import Derived.Test.YtonacfjhfkdgbaaWInv
import Derived.Test.YtonacfjhfkdgbaaWInvWords
import Derived.Test.YtonacfjhfkdgbaaWGuard
import Derived.Test.YtonacfjhfkdgbaaWNEv
import Derived.Test.YtonacfjhfkdgbaaWMore
namespace Go.Proofs.Ytonacfjhfkdgbaa.PIrredField
open Go.RowKit Go.Proofs.YtonacfjhfkdgbaaW.PrintWords Go.Proofs.YtonacfjhfkdgbaaW.PrintLast Go.Proofs.YtonacfjhfkdgbaaW.PrintMore
attribute [local go_sem] max2_int min2_int max_two min_two max_three min_three max_four min_four   -- for this text's walks alone
set_option linter.unusedVariables false
set_option linter.unusedSimpArgs false



def errW : Option Int → Value
  | none => .nilIface
  | some c => .iface 0 (.int .i64 c)
theorem errW_none : errW none = .nilIface := rfl
theorem errW_some (c : Int) : errW (some c) = .iface 0 (.int .i64 c) := rfl

theorem info3 : (Try.prog.info? 3).map (fun i => (i.zero, i.size, i.bytes)) = some (some (.int .i64 0), 1, 8) := by kernel_rfl
theorem info23 : (Try.prog.info? 23).map (fun i => (i.zero, i.size, i.bytes)) = some (some (.int .i64 0), 1, 8) := by kernel_rfl
-- the values' own types

end Go.Proofs.Ytonacfjhfkdgbaa.PIrredField
