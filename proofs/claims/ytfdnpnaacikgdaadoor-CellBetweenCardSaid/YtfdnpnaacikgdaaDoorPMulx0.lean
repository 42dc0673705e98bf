/- Printed by this session's own run of the print. -/
import Derived.Test.YtfdnpnaacikgdaaDoorProg
import Derived.Below
import Derived.Deep.Draws
import Derived.Deep.AppendLies
import Derived.Maps.AppendAt
import Derived.OwnWalk
import Derived.Laws.BytesArg
import Derived.Laws.MakeOwn
import Derived.Laws.OwnMore
import Derived.Deep.OwnRows
import Derived.Tactics
import Derived.Lib.ConvBytes
import Derived.Laws.Slices
import Derived.WalkKit
import Derived.KernelRfl
import Derived.RowKit3
import Derived.Deep.LoopGhost
import Derived.Deep.QuietTactic
import Derived.BigQuiet
import Derived.WideLaws
import Derived.Deep.DeepCutAuto
import Derived.Deep.CutBlock
import Derived.Deep.RegionHeld3
import Derived.Laws.Rows
import Derived.Lib.AppendStr
import Derived.ArgAppend
import Derived.Laws.IdiomCopy
import Derived.OrdersHeld
import Derived.Laws.BitsLemmas
import Derived.RowKit
import Derived.Test.YtfdnpnaacikgdaaDoorWWords
import Derived.Test.YtfdnpnaacikgdaaDoorWLast
import Derived.Test.YtfdnpnaacikgdaaDoorWTab
import Derived.Test.YtfdnpnaacikgdaaDoorWFour
import Derived.Test.YtfdnpnaacikgdaaDoorWQPut
import Derived.Test.YtfdnpnaacikgdaaDoorWApart
import Derived.Test.YtfdnpnaacikgdaaDoorWArr
import Derived.Test.YtfdnpnaacikgdaaDoorWZeros
import Derived.Test.YtfdnpnaacikgdaaDoorWFoot
import Derived.Test.YtfdnpnaacikgdaaDoorWKept
import Derived.Test.YtfdnpnaacikgdaaDoorWShare
import Derived.Test.YtfdnpnaacikgdaaDoorWN
import Derived.Test.YtfdnpnaacikgdaaDoorWFootNe
import Derived.Test.YtfdnpnaacikgdaaDoorWAt
import Derived.Test.YtfdnpnaacikgdaaDoorWEqStruct
import Derived.Test.YtfdnpnaacikgdaaDoorWRepsOne
import Derived.Test.YtfdnpnaacikgdaaDoorWInv
import Derived.Test.YtfdnpnaacikgdaaDoorWInvWords
import Derived.Test.YtfdnpnaacikgdaaDoorWGuard
import Derived.Test.YtfdnpnaacikgdaaDoorWNEv
import Derived.Test.YtfdnpnaacikgdaaDoorWMore
namespace Go.Proofs.YtfdnpnaacikgdaaDoor.PMul
open Go.RowKit Go.Proofs.YtfdnpnaacikgdaaDoorW.PrintWords Go.Proofs.YtfdnpnaacikgdaaDoorW.PrintLast Go.Proofs.YtfdnpnaacikgdaaDoorW.PrintMore
attribute [local go_sem] max2_int min2_int max_two min_two max_three min_three max_four min_four   -- for this text's walks alone
set_option linter.unusedVariables false
set_option linter.unusedSimpArgs false



def errW : Option Int → Value
  | none => .nilIface
  | some c => .iface 0 (.int .i64 c)
theorem errW_none : errW none = .nilIface := rfl
theorem errW_some (c : Int) : errW (some c) = .iface 0 (.int .i64 c) := rfl

-- the values' own types

end Go.Proofs.YtfdnpnaacikgdaaDoor.PMul
