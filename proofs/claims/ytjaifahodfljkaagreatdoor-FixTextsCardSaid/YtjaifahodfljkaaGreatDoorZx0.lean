/- Laid by program (this session's, over the kit's print): functions of this seat as plain Lean functions, each with its contract. -/
import Derived.Test.YtjaifahodfljkaaGreatDoorProg
import Derived.Below
import Derived.Deep.Draws
import Derived.Deep.AppendLies
import Derived.Maps.AppendAt
import Derived.OwnWalk
import Derived.Laws.BytesArg
import Derived.Laws.MakeOwn
import Derived.Laws.OwnMore
import Derived.Deep.OwnRows
import Derived.Tactics
import Derived.Lib.ConvBytes
import Derived.Laws.Slices
import Derived.WalkKit
import Derived.KernelRfl
import Derived.RowKit3
import Derived.Deep.LoopGhost
import Derived.Deep.QuietTactic
import Derived.BigQuiet
import Derived.WideLaws
import Derived.Deep.DeepCutAuto
import Derived.Deep.CutBlock
import Derived.Deep.RegionHeld3
import Derived.Laws.Rows
import Derived.Lib.AppendStr
import Derived.ArgAppend
import Derived.Laws.IdiomCopy
import Derived.OrdersHeld
import Derived.Laws.BitsLemmas
import Derived.RowKit
import Derived.Test.YtjaifahodfljkaaGreatDoorXlib
import Derived.Test.YtjaifahodfljkaaGreatDoorWWords
import Derived.Test.YtjaifahodfljkaaGreatDoorWLast
import Derived.Test.YtjaifahodfljkaaGreatDoorWTab
import Derived.Test.YtjaifahodfljkaaGreatDoorWFour
import Derived.Test.YtjaifahodfljkaaGreatDoorWQPut
import Derived.Test.YtjaifahodfljkaaGreatDoorWApart
import Derived.Test.YtjaifahodfljkaaGreatDoorWArr
import Derived.Test.YtjaifahodfljkaaGreatDoorWZeros
import Derived.Test.YtjaifahodfljkaaGreatDoorWFoot
import Derived.Test.YtjaifahodfljkaaGreatDoorWKept
import Derived.Test.YtjaifahodfljkaaGreatDoorWShare
import Derived.Test.YtjaifahodfljkaaGreatDoorWN
import Derived.Test.YtjaifahodfljkaaGreatDoorWFootNe
import Derived.Test.YtjaifahodfljkaaGreatDoorWAt
import Derived.Test.YtjaifahodfljkaaGreatDoorWEqStruct
import Derived.Test.YtjaifahodfljkaaGreatDoorWRepsOne
import Derived.Test.YtjaifahodfljkaaGreatDoorWInv
import Derived.Test.YtjaifahodfljkaaGreatDoorWInvWords
import Derived.Test.YtjaifahodfljkaaGreatDoorWGuard
import Derived.Test.YtjaifahodfljkaaGreatDoorWNEv
import Derived.Test.YtjaifahodfljkaaGreatDoorWMore
namespace Go.Proofs.YtjaifahodfljkaaGreatDoor.Z
open Go.RowKit Go.Proofs.YtjaifahodfljkaaGreatDoorW.PrintWords Go.Proofs.YtjaifahodfljkaaGreatDoorW.PrintLast Go.Proofs.YtjaifahodfljkaaGreatDoorW.PrintMore
attribute [local go_sem] max2_int min2_int max_two min_two max_three min_three max_four min_four   -- for this text's walks alone
set_option linter.unusedVariables false
set_option linter.unusedSimpArgs false



def errW : Option Int → Value
  | none => .nilIface
  | some c => .iface 0 (.int .i64 c)
theorem errW_none : errW none = .nilIface := rfl
theorem errW_some (c : Int) : errW (some c) = .iface 0 (.int .i64 c) := rfl

theorem info3 : (Tryz.prog.info? 3).map (fun i => (i.zero, i.size, i.bytes)) = some (some (.int .i64 0), 1, 8) := by kernel_rfl
-- the values' own types

end Go.Proofs.YtjaifahodfljkaaGreatDoor.Z
