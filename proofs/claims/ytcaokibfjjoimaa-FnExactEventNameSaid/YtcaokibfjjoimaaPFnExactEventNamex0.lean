-- PRINTED BY print.sh 35421559b90ae4d0a3588c463048766b98c2df88dd9212a6774a882060cdf62d: not written by this session
import Derived.Test.YtcaokibfjjoimaaProg
import Derived.Below
import Derived.Deep.Draws
import Derived.Deep.AppendLies
import Derived.Maps.AppendAt
import Derived.OwnWalk
import Derived.Laws.BytesArg
import Derived.Laws.MakeOwn
import Derived.Laws.OwnMore
import Derived.Deep.OwnRows
import Derived.Tactics
import Derived.Lib.ConvBytes
import Derived.Laws.Slices
import Derived.WalkKit
import Derived.KernelRfl
import Derived.RowKit3
import Derived.Deep.LoopGhost
import Derived.Deep.QuietTactic
import Derived.BigQuiet
import Derived.WideLaws
import Derived.Deep.DeepCutAuto
import Derived.Deep.CutBlock
import Derived.Deep.RegionHeld3
import Derived.Laws.Rows
import Derived.Lib.AppendStr
import Derived.ArgAppend
import Derived.Laws.IdiomCopy
import Derived.OrdersHeld
import Derived.Laws.BitsLemmas
import Derived.RowKit
import Derived.Test.YtcaokibfjjoimaaWWords
import Derived.Test.YtcaokibfjjoimaaWLast
import Derived.Test.YtcaokibfjjoimaaWTab
import Derived.Test.YtcaokibfjjoimaaWFour
import Derived.Test.YtcaokibfjjoimaaWQPut
import Derived.Test.YtcaokibfjjoimaaWApart
import Derived.Test.YtcaokibfjjoimaaWArr
import Derived.Test.YtcaokibfjjoimaaWZeros
import Derived.Test.YtcaokibfjjoimaaWFoot
import Derived.Test.YtcaokibfjjoimaaWKept
import Derived.Test.YtcaokibfjjoimaaWShare
import Derived.Test.YtcaokibfjjoimaaWN
import Derived.Test.YtcaokibfjjoimaaWFootNe
import Derived.Test.YtcaokibfjjoimaaWAt
import Derived.Test.YtcaokibfjjoimaaWEqStruct
import Derived.Test.YtcaokibfjjoimaaWRepsOne
import Derived.Test.YtcaokibfjjoimaaWInv
import Derived.Test.YtcaokibfjjoimaaWInvWords
import Derived.Test.YtcaokibfjjoimaaWGuard
import Derived.Test.YtcaokibfjjoimaaWNEv
import Derived.Test.YtcaokibfjjoimaaWMore
namespace Go.Proofs.Ytcaokibfjjoimaa.PFnExactEventName
open Go.RowKit Go.Proofs.YtcaokibfjjoimaaW.PrintWords Go.Proofs.YtcaokibfjjoimaaW.PrintLast Go.Proofs.YtcaokibfjjoimaaW.PrintMore
attribute [local go_sem] max2_int min2_int max_two min_two max_three min_three max_four min_four   -- for this text's walks alone
set_option linter.unusedVariables false
set_option linter.unusedSimpArgs false



def errW : Option Int → Value
  | none => .nilIface
  | some c => .iface 0 (.int .i64 c)
theorem errW_none : errW none = .nilIface := rfl
theorem errW_some (c : Int) : errW (some c) = .iface 0 (.int .i64 c) := rfl

theorem info9 : (Try.prog.info? 9).map (fun i => (i.zero, i.size, i.bytes)) = some (some (.string ⟨#[]⟩), 1, 16) := by kernel_rfl
-- the values' own types

end Go.Proofs.Ytcaokibfjjoimaa.PFnExactEventName
