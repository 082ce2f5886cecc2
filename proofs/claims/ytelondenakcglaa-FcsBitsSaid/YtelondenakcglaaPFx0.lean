/-
Written by the kit's printing tool over a print in which one function stood in for another (wip/fcs_prep.py); that function's own section is YtelondenakcglaaPFof, typed by hand.
-/
import Derived.Test.YtelondenakcglaaProg
import Derived.Below
import Derived.Deep.Draws
import Derived.Deep.AppendLies
import Derived.Maps.AppendAt
import Derived.OwnWalk
import Derived.Laws.BytesArg
import Derived.Laws.MakeOwn
import Derived.Laws.OwnMore
import Derived.Deep.OwnRows
import Derived.Tactics
import Derived.Lib.ConvBytes
import Derived.Laws.Slices
import Derived.WalkKit
import Derived.KernelRfl
import Derived.RowKit3
import Derived.Deep.LoopGhost
import Derived.Deep.QuietTactic
import Derived.BigQuiet
import Derived.WideLaws
import Derived.Deep.DeepCutAuto
import Derived.Deep.CutBlock
import Derived.Deep.RegionHeld3
import Derived.Laws.Rows
import Derived.Lib.AppendStr
import Derived.ArgAppend
import Derived.Laws.IdiomCopy
import Derived.OrdersHeld
import Derived.Laws.BitsLemmas
import Derived.RowKit
import Derived.Test.YtelondenakcglaaWWords
import Derived.Test.YtelondenakcglaaWLast
import Derived.Test.YtelondenakcglaaWTab
import Derived.Test.YtelondenakcglaaWFour
import Derived.Test.YtelondenakcglaaWQPut
import Derived.Test.YtelondenakcglaaWApart
import Derived.Test.YtelondenakcglaaWArr
import Derived.Test.YtelondenakcglaaWZeros
import Derived.Test.YtelondenakcglaaWFoot
import Derived.Test.YtelondenakcglaaWKept
import Derived.Test.YtelondenakcglaaWShare
import Derived.Test.YtelondenakcglaaWN
import Derived.Test.YtelondenakcglaaWFootNe
import Derived.Test.YtelondenakcglaaWAt
import Derived.Test.YtelondenakcglaaWEqStruct
import Derived.Test.YtelondenakcglaaWRepsOne
import Derived.Test.YtelondenakcglaaWInv
import Derived.Test.YtelondenakcglaaWInvWords
import Derived.Test.YtelondenakcglaaWGuard
import Derived.Test.YtelondenakcglaaWNEv
import Derived.Test.YtelondenakcglaaWMore
namespace Go.Proofs.Ytelondenakcglaa.PF
open Go.RowKit Go.Proofs.YtelondenakcglaaW.PrintWords Go.Proofs.YtelondenakcglaaW.PrintLast Go.Proofs.YtelondenakcglaaW.PrintMore
attribute [local go_sem] max2_int min2_int max_two min_two max_three min_three max_four min_four   -- for this text's walks alone
set_option linter.unusedVariables false
set_option linter.unusedSimpArgs false



def errW : Option Int → Value
  | none => .nilIface
  | some c => .iface 0 (.int .i64 c)
theorem errW_none : errW none = .nilIface := rfl
theorem errW_some (c : Int) : errW (some c) = .iface 0 (.int .i64 c) := rfl

theorem info5 : (Try.prog.info? 5).map (fun i => (i.zero, i.size, i.bytes)) = some (some (.int .u8 0), 1, 1) := by kernel_rfl
-- the values' own types

end Go.Proofs.Ytelondenakcglaa.PF
