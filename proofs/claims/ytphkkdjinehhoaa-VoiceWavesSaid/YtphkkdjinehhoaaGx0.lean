/- Laid by a program of this repo over the translation: each Go function as a plain Lean function with the proof that the call comes to its answers, or a statement's row out of these; conditions: the hypotheses of each theorem. -/
import Derived.Test.YtphkkdjinehhoaaProg
import Derived.Below
import Derived.Deep.Draws
import Derived.Deep.AppendLies
import Derived.Maps.AppendAt
import Derived.OwnWalk
import Derived.Laws.BytesArg
import Derived.Laws.MakeOwn
import Derived.Laws.OwnMore
import Derived.Deep.OwnRows
import Derived.Tactics
import Derived.Lib.ConvBytes
import Derived.Laws.Slices
import Derived.WalkKit
import Derived.KernelRfl
import Derived.RowKit3
import Derived.Deep.LoopGhost
import Derived.Deep.QuietTactic
import Derived.BigQuiet
import Derived.WideLaws
import Derived.Deep.DeepCutAuto
import Derived.Deep.CutBlock
import Derived.Deep.RegionHeld3
import Derived.Laws.Rows
import Derived.Lib.AppendStr
import Derived.ArgAppend
import Derived.Laws.IdiomCopy
import Derived.OrdersHeld
import Derived.Laws.BitsLemmas
import Derived.RowKit
import Derived.Deep.WholeRow
import Derived.Laws.ResultCell
import Derived.Lib.Walk
import Derived.Test.YtphkkdjinehhoaaHBits
import Derived.Test.YtphkkdjinehhoaaHRange
import Derived.Test.YtphkkdjinehhoaaHConv
import Derived.Test.YtphkkdjinehhoaaHPure
import Derived.Test.YtphkkdjinehhoaaHIdx
import Derived.Lib.Hide
import Derived.BigRegion
import Derived.Lib.SlBytesConst
import Derived.Test.YtphkkdjinehhoaaWWords
import Derived.Test.YtphkkdjinehhoaaWLast
import Derived.Test.YtphkkdjinehhoaaWTab
import Derived.Test.YtphkkdjinehhoaaWFour
import Derived.Test.YtphkkdjinehhoaaWQPut
import Derived.Test.YtphkkdjinehhoaaWApart
import Derived.Test.YtphkkdjinehhoaaWArr
import Derived.Test.YtphkkdjinehhoaaWZeros
import Derived.Test.YtphkkdjinehhoaaWFoot
import Derived.Test.YtphkkdjinehhoaaWKept
import Derived.Test.YtphkkdjinehhoaaWShare
import Derived.Test.YtphkkdjinehhoaaWN
import Derived.Test.YtphkkdjinehhoaaWFootNe
import Derived.Test.YtphkkdjinehhoaaWAt
import Derived.Test.YtphkkdjinehhoaaWEqStruct
import Derived.Test.YtphkkdjinehhoaaWRepsOne
import Derived.Test.YtphkkdjinehhoaaWInv
import Derived.Test.YtphkkdjinehhoaaWInvWords
import Derived.Test.YtphkkdjinehhoaaWGuard
import Derived.Test.YtphkkdjinehhoaaWNEv
import Derived.Test.YtphkkdjinehhoaaWMore
namespace Go.Proofs.Ytphkkdjinehhoaa.G
open Go.RowKit Go.Proofs.YtphkkdjinehhoaaW.PrintWords Go.Proofs.YtphkkdjinehhoaaW.PrintLast Go.Proofs.YtphkkdjinehhoaaW.PrintMore
attribute [local go_sem] max2_int min2_int max_two min_two max_three min_three max_four min_four   -- for this text's walks alone
set_option linter.unusedVariables false
set_option linter.unusedSimpArgs false



def errW : Option Int → Value
  | none => .nilIface
  | some c => .iface 0 (.int .i64 c)
theorem errW_none : errW none = .nilIface := rfl
theorem errW_some (c : Int) : errW (some c) = .iface 0 (.int .i64 c) := rfl

theorem info3 : (Try.prog.info? 3).map (fun i => (i.zero, i.size, i.bytes)) = some (some (.int .i64 0), 1, 8) := by kernel_rfl
theorem info5 : (Try.prog.info? 5).map (fun i => (i.zero, i.size, i.bytes)) = some (some (.int .u8 0), 1, 1) := by kernel_rfl
-- the values' own types

end Go.Proofs.Ytphkkdjinehhoaa.G
