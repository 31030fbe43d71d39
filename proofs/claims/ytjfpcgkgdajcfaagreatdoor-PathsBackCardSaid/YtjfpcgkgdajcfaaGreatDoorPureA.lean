/-
  The law's own fixed checks hold: by evaluation; no condition.
-/
import Derived.Test.YtjfpcgkgdajcfaaGreatDoorQ4
open Go Go.Ev
set_option maxRecDepth 1000000
namespace Go.Proofs.YtjfpcgkgdajcfaaGreatDoor
theorem awake_ok : F13 2000 = some true := by kernel_rfl
end Go.Proofs.YtjfpcgkgdajcfaaGreatDoor
