/- Laid by a program of this repo over the translation: each Go function as a plain Lean function with the proof that the call comes to its answers, or a statement's row out of these; conditions: the hypotheses of each theorem. -/
import Derived.Test.YtlilcbpcjmcfbaaDoorProg
import Derived.Below
import Derived.Deep.Draws
import Derived.Deep.AppendLies
import Derived.Maps.AppendAt
import Derived.OwnWalk
import Derived.Laws.BytesArg
import Derived.Laws.MakeOwn
import Derived.Laws.OwnMore
import Derived.Deep.OwnRows
import Derived.Tactics
import Derived.Lib.ConvBytes
import Derived.Laws.Slices
import Derived.WalkKit
import Derived.KernelRfl
import Derived.RowKit3
import Derived.Deep.LoopGhost
import Derived.Deep.QuietTactic
import Derived.BigQuiet
import Derived.WideLaws
import Derived.Deep.DeepCutAuto
import Derived.Deep.CutBlock
import Derived.Deep.RegionHeld3
import Derived.Laws.Rows
import Derived.Lib.AppendStr
import Derived.ArgAppend
import Derived.Laws.IdiomCopy
import Derived.OrdersHeld
import Derived.Laws.BitsLemmas
import Derived.RowKit
import Derived.Deep.WholeRow
import Derived.Laws.ResultCell
import Derived.Lib.Walk
import Derived.Test.YtlilcbpcjmcfbaaDoorHBits
import Derived.Test.YtlilcbpcjmcfbaaDoorHRange
import Derived.Test.YtlilcbpcjmcfbaaDoorHConv
import Derived.Test.YtlilcbpcjmcfbaaDoorHPure
import Derived.Lib.Hide
import Derived.Test.YtlilcbpcjmcfbaaDoorShelf
import Derived.BigRegion
import Derived.Lib.SlBytesConst
import Derived.Test.YtlilcbpcjmcfbaaDoorWWords
import Derived.Test.YtlilcbpcjmcfbaaDoorWLast
import Derived.Test.YtlilcbpcjmcfbaaDoorWTab
import Derived.Test.YtlilcbpcjmcfbaaDoorWFour
import Derived.Test.YtlilcbpcjmcfbaaDoorWQPut
import Derived.Test.YtlilcbpcjmcfbaaDoorWApart
import Derived.Test.YtlilcbpcjmcfbaaDoorWArr
import Derived.Test.YtlilcbpcjmcfbaaDoorWZeros
import Derived.Test.YtlilcbpcjmcfbaaDoorWFoot
import Derived.Test.YtlilcbpcjmcfbaaDoorWKept
import Derived.Test.YtlilcbpcjmcfbaaDoorWShare
import Derived.Test.YtlilcbpcjmcfbaaDoorWN
import Derived.Test.YtlilcbpcjmcfbaaDoorWFootNe
import Derived.Test.YtlilcbpcjmcfbaaDoorWAt
import Derived.Test.YtlilcbpcjmcfbaaDoorWEqStruct
import Derived.Test.YtlilcbpcjmcfbaaDoorWRepsOne
import Derived.Test.YtlilcbpcjmcfbaaDoorWInv
import Derived.Test.YtlilcbpcjmcfbaaDoorWInvWords
import Derived.Test.YtlilcbpcjmcfbaaDoorWGuard
import Derived.Test.YtlilcbpcjmcfbaaDoorWNEv
import Derived.Test.YtlilcbpcjmcfbaaDoorWMore
namespace Go.Proofs.YtlilcbpcjmcfbaaDoor.D
open Go.RowKit Go.Proofs.YtlilcbpcjmcfbaaDoorW.PrintWords Go.Proofs.YtlilcbpcjmcfbaaDoorW.PrintLast Go.Proofs.YtlilcbpcjmcfbaaDoorW.PrintMore
attribute [local go_sem] max2_int min2_int max_two min_two max_three min_three max_four min_four   -- for this text's walks alone
set_option linter.unusedVariables false
set_option linter.unusedSimpArgs false



def errW : Option Int → Value
  | none => .nilIface
  | some c => .iface 0 (.int .i64 c)
theorem errW_none : errW none = .nilIface := rfl
theorem errW_some (c : Int) : errW (some c) = .iface 0 (.int .i64 c) := rfl

theorem info5 : (Tryd.prog.info? 5).map (fun i => (i.zero, i.size, i.bytes)) = some (some (.int .u8 0), 1, 1) := by kernel_rfl
-- the values' own types

end Go.Proofs.YtlilcbpcjmcfbaaDoor.D
