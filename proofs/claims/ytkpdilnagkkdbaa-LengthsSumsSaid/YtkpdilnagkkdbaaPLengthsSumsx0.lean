-- PRINTED BY print.sh 35421559b90ae4d0a3588c463048766b98c2df88dd9212a6774a882060cdf62d: not written by this session
import Derived.Test.YtkpdilnagkkdbaaProg
import Derived.Below
import Derived.Deep.Draws
import Derived.Deep.AppendLies
import Derived.Maps.AppendAt
import Derived.OwnWalk
import Derived.Laws.BytesArg
import Derived.Laws.MakeOwn
import Derived.Laws.OwnMore
import Derived.Deep.OwnRows
import Derived.Tactics
import Derived.Lib.ConvBytes
import Derived.Laws.Slices
import Derived.WalkKit
import Derived.KernelRfl
import Derived.RowKit3
import Derived.Deep.LoopGhost
import Derived.Deep.QuietTactic
import Derived.BigQuiet
import Derived.WideLaws
import Derived.Deep.DeepCutAuto
import Derived.Deep.CutBlock
import Derived.Deep.RegionHeld3
import Derived.Laws.Rows
import Derived.Lib.AppendStr
import Derived.ArgAppend
import Derived.Laws.IdiomCopy
import Derived.OrdersHeld
import Derived.Laws.BitsLemmas
import Derived.RowKit
import Derived.Test.YtkpdilnagkkdbaaWWords
import Derived.Test.YtkpdilnagkkdbaaWLast
import Derived.Test.YtkpdilnagkkdbaaWTab
import Derived.Test.YtkpdilnagkkdbaaWFour
import Derived.Test.YtkpdilnagkkdbaaWQPut
import Derived.Test.YtkpdilnagkkdbaaWApart
import Derived.Test.YtkpdilnagkkdbaaWArr
import Derived.Test.YtkpdilnagkkdbaaWZeros
import Derived.Test.YtkpdilnagkkdbaaWFoot
import Derived.Test.YtkpdilnagkkdbaaWKept
import Derived.Test.YtkpdilnagkkdbaaWShare
import Derived.Test.YtkpdilnagkkdbaaWN
import Derived.Test.YtkpdilnagkkdbaaWFootNe
import Derived.Test.YtkpdilnagkkdbaaWAt
import Derived.Test.YtkpdilnagkkdbaaWEqStruct
import Derived.Test.YtkpdilnagkkdbaaWRepsOne
import Derived.Test.YtkpdilnagkkdbaaWInv
import Derived.Test.YtkpdilnagkkdbaaWInvWords
import Derived.Test.YtkpdilnagkkdbaaWGuard
import Derived.Test.YtkpdilnagkkdbaaWNEv
import Derived.Test.YtkpdilnagkkdbaaWMore
namespace Go.Proofs.Ytkpdilnagkkdbaa.PLengthsSums
open Go.RowKit Go.Proofs.YtkpdilnagkkdbaaW.PrintWords Go.Proofs.YtkpdilnagkkdbaaW.PrintLast Go.Proofs.YtkpdilnagkkdbaaW.PrintMore
attribute [local go_sem] max2_int min2_int max_two min_two max_three min_three max_four min_four   -- for this text's walks alone
set_option linter.unusedVariables false
set_option linter.unusedSimpArgs false



def errW : Option Int → Value
  | none => .nilIface
  | some c => .iface 0 (.int .i64 c)
theorem errW_none : errW none = .nilIface := rfl
theorem errW_some (c : Int) : errW (some c) = .iface 0 (.int .i64 c) := rfl

-- the values' own types

end Go.Proofs.Ytkpdilnagkkdbaa.PLengthsSums
