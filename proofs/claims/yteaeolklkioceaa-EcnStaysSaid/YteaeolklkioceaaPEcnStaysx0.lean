-- PRINTED BY print.sh 35421559b90ae4d0a3588c463048766b98c2df88dd9212a6774a882060cdf62d: not written by this session
import Derived.Test.YteaeolklkioceaaProg
import Derived.Below
import Derived.Deep.Draws
import Derived.Deep.AppendLies
import Derived.Maps.AppendAt
import Derived.OwnWalk
import Derived.Laws.BytesArg
import Derived.Laws.MakeOwn
import Derived.Laws.OwnMore
import Derived.Deep.OwnRows
import Derived.Tactics
import Derived.Lib.ConvBytes
import Derived.Laws.Slices
import Derived.WalkKit
import Derived.KernelRfl
import Derived.RowKit3
import Derived.Deep.LoopGhost
import Derived.Deep.QuietTactic
import Derived.BigQuiet
import Derived.WideLaws
import Derived.Deep.DeepCutAuto
import Derived.Deep.CutBlock
import Derived.Deep.RegionHeld3
import Derived.Laws.Rows
import Derived.Lib.AppendStr
import Derived.ArgAppend
import Derived.Laws.IdiomCopy
import Derived.OrdersHeld
import Derived.Laws.BitsLemmas
import Derived.RowKit
import Derived.Test.YteaeolklkioceaaWWords
import Derived.Test.YteaeolklkioceaaWLast
import Derived.Test.YteaeolklkioceaaWTab
import Derived.Test.YteaeolklkioceaaWFour
import Derived.Test.YteaeolklkioceaaWQPut
import Derived.Test.YteaeolklkioceaaWApart
import Derived.Test.YteaeolklkioceaaWArr
import Derived.Test.YteaeolklkioceaaWZeros
import Derived.Test.YteaeolklkioceaaWFoot
import Derived.Test.YteaeolklkioceaaWKept
import Derived.Test.YteaeolklkioceaaWShare
import Derived.Test.YteaeolklkioceaaWN
import Derived.Test.YteaeolklkioceaaWFootNe
import Derived.Test.YteaeolklkioceaaWAt
import Derived.Test.YteaeolklkioceaaWEqStruct
import Derived.Test.YteaeolklkioceaaWRepsOne
import Derived.Test.YteaeolklkioceaaWInv
import Derived.Test.YteaeolklkioceaaWInvWords
import Derived.Test.YteaeolklkioceaaWGuard
import Derived.Test.YteaeolklkioceaaWNEv
import Derived.Test.YteaeolklkioceaaWMore
namespace Go.Proofs.Yteaeolklkioceaa.PEcnStays
open Go.RowKit Go.Proofs.YteaeolklkioceaaW.PrintWords Go.Proofs.YteaeolklkioceaaW.PrintLast Go.Proofs.YteaeolklkioceaaW.PrintMore
attribute [local go_sem] max2_int min2_int max_two min_two max_three min_three max_four min_four   -- for this text's walks alone
set_option linter.unusedVariables false
set_option linter.unusedSimpArgs false



def errW : Option Int → Value
  | none => .nilIface
  | some c => .iface 0 (.int .i64 c)
theorem errW_none : errW none = .nilIface := rfl
theorem errW_some (c : Int) : errW (some c) = .iface 0 (.int .i64 c) := rfl

-- the values' own types

end Go.Proofs.Yteaeolklkioceaa.PEcnStays
