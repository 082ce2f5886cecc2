-- PRINTED BY print.sh 35421559b90ae4d0a3588c463048766b98c2df88dd9212a6774a882060cdf62d: not written by this session
import Derived.Test.YtpjjacdefafakaaProg
import Derived.Below
import Derived.Deep.Draws
import Derived.Deep.AppendLies
import Derived.Maps.AppendAt
import Derived.OwnWalk
import Derived.Laws.BytesArg
import Derived.Laws.MakeOwn
import Derived.Laws.OwnMore
import Derived.Deep.OwnRows
import Derived.Tactics
import Derived.Lib.ConvBytes
import Derived.Laws.Slices
import Derived.WalkKit
import Derived.KernelRfl
import Derived.RowKit3
import Derived.Deep.LoopGhost
import Derived.Deep.QuietTactic
import Derived.BigQuiet
import Derived.WideLaws
import Derived.Deep.DeepCutAuto
import Derived.Deep.CutBlock
import Derived.Deep.RegionHeld3
import Derived.Laws.Rows
import Derived.Lib.AppendStr
import Derived.ArgAppend
import Derived.Laws.IdiomCopy
import Derived.OrdersHeld
import Derived.Laws.BitsLemmas
import Derived.RowKit
import Derived.Test.YtpjjacdefafakaaWWords
import Derived.Test.YtpjjacdefafakaaWLast
import Derived.Test.YtpjjacdefafakaaWTab
import Derived.Test.YtpjjacdefafakaaWFour
import Derived.Test.YtpjjacdefafakaaWQPut
import Derived.Test.YtpjjacdefafakaaWApart
import Derived.Test.YtpjjacdefafakaaWArr
import Derived.Test.YtpjjacdefafakaaWZeros
import Derived.Test.YtpjjacdefafakaaWFoot
import Derived.Test.YtpjjacdefafakaaWKept
import Derived.Test.YtpjjacdefafakaaWShare
import Derived.Test.YtpjjacdefafakaaWN
import Derived.Test.YtpjjacdefafakaaWFootNe
import Derived.Test.YtpjjacdefafakaaWAt
import Derived.Test.YtpjjacdefafakaaWEqStruct
import Derived.Test.YtpjjacdefafakaaWRepsOne
import Derived.Test.YtpjjacdefafakaaWInv
import Derived.Test.YtpjjacdefafakaaWInvWords
import Derived.Test.YtpjjacdefafakaaWGuard
import Derived.Test.YtpjjacdefafakaaWNEv
import Derived.Test.YtpjjacdefafakaaWMore
namespace Go.Proofs.Ytpjjacdefafakaa.PDelays
open Go.RowKit Go.Proofs.YtpjjacdefafakaaW.PrintWords Go.Proofs.YtpjjacdefafakaaW.PrintLast Go.Proofs.YtpjjacdefafakaaW.PrintMore
attribute [local go_sem] max2_int min2_int max_two min_two max_three min_three max_four min_four   -- for this text's walks alone
set_option linter.unusedVariables false
set_option linter.unusedSimpArgs false



def errW : Option Int → Value
  | none => .nilIface
  | some c => .iface 0 (.int .i64 c)
theorem errW_none : errW none = .nilIface := rfl
theorem errW_some (c : Int) : errW (some c) = .iface 0 (.int .i64 c) := rfl

-- the values' own types

end Go.Proofs.Ytpjjacdefafakaa.PDelays
