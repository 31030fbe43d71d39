/- Laid by program (this session's, over the kit's print): functions of this seat as plain Lean functions, each with its contract. -/
import Derived.Test.YtjaifahodfljkaaDoorProg
import Derived.Below
import Derived.Deep.Draws
import Derived.Deep.AppendLies
import Derived.Maps.AppendAt
import Derived.OwnWalk
import Derived.Laws.BytesArg
import Derived.Laws.MakeOwn
import Derived.Laws.OwnMore
import Derived.Deep.OwnRows
import Derived.Tactics
import Derived.Lib.ConvBytes
import Derived.Laws.Slices
import Derived.WalkKit
import Derived.KernelRfl
import Derived.RowKit3
import Derived.Deep.LoopGhost
import Derived.Deep.QuietTactic
import Derived.BigQuiet
import Derived.WideLaws
import Derived.Deep.DeepCutAuto
import Derived.Deep.CutBlock
import Derived.Deep.RegionHeld3
import Derived.Laws.Rows
import Derived.Lib.AppendStr
import Derived.ArgAppend
import Derived.Laws.IdiomCopy
import Derived.OrdersHeld
import Derived.Laws.BitsLemmas
import Derived.RowKit
import Derived.Test.YtjaifahodfljkaaDoorXlib
import Derived.Test.YtjaifahodfljkaaDoorWWords
import Derived.Test.YtjaifahodfljkaaDoorWLast
import Derived.Test.YtjaifahodfljkaaDoorWTab
import Derived.Test.YtjaifahodfljkaaDoorWFour
import Derived.Test.YtjaifahodfljkaaDoorWQPut
import Derived.Test.YtjaifahodfljkaaDoorWApart
import Derived.Test.YtjaifahodfljkaaDoorWArr
import Derived.Test.YtjaifahodfljkaaDoorWZeros
import Derived.Test.YtjaifahodfljkaaDoorWFoot
import Derived.Test.YtjaifahodfljkaaDoorWKept
import Derived.Test.YtjaifahodfljkaaDoorWShare
import Derived.Test.YtjaifahodfljkaaDoorWN
import Derived.Test.YtjaifahodfljkaaDoorWFootNe
import Derived.Test.YtjaifahodfljkaaDoorWAt
import Derived.Test.YtjaifahodfljkaaDoorWEqStruct
import Derived.Test.YtjaifahodfljkaaDoorWRepsOne
import Derived.Test.YtjaifahodfljkaaDoorWInv
import Derived.Test.YtjaifahodfljkaaDoorWInvWords
import Derived.Test.YtjaifahodfljkaaDoorWGuard
import Derived.Test.YtjaifahodfljkaaDoorWNEv
import Derived.Test.YtjaifahodfljkaaDoorWMore
namespace Go.Proofs.YtjaifahodfljkaaDoor.Z
open Go.RowKit Go.Proofs.YtjaifahodfljkaaDoorW.PrintWords Go.Proofs.YtjaifahodfljkaaDoorW.PrintLast Go.Proofs.YtjaifahodfljkaaDoorW.PrintMore
attribute [local go_sem] max2_int min2_int max_two min_two max_three min_three max_four min_four   -- for this text's walks alone
set_option linter.unusedVariables false
set_option linter.unusedSimpArgs false



def errW : Option Int → Value
  | none => .nilIface
  | some c => .iface 0 (.int .i64 c)
theorem errW_none : errW none = .nilIface := rfl
theorem errW_some (c : Int) : errW (some c) = .iface 0 (.int .i64 c) := rfl

theorem info3 : (Tryd.prog.info? 3).map (fun i => (i.zero, i.size, i.bytes)) = some (some (.int .i64 0), 1, 8) := by kernel_rfl
-- the values' own types

end Go.Proofs.YtjaifahodfljkaaDoor.Z
