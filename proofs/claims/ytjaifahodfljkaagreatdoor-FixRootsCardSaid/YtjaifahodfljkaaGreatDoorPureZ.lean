/-
  The pure statements of FixMuls, FixRoots, FixSines, FixTurns and FixArgs: the package's answers are the reference's, for every input.
-/
import Derived.Test.YtjaifahodfljkaaGreatDoorRefA
import Derived.Test.YtjaifahodfljkaaGreatDoorZx5
import Derived.Test.YtjaifahodfljkaaGreatDoorZx6
import Derived.Test.YtjaifahodfljkaaGreatDoorZx7
namespace Go.Proofs.YtjaifahodfljkaaGreatDoor.Z
open Go Go.RowKit Go.Proofs.YtjaifahodfljkaaGreatDoorW.PrintWords Go.Proofs.YtjaifahodfljkaaGreatDoorW.PrintMore

theorem awake_true : fleuronlaw02_awake.f 80 = some true := by decide +kernel
theorem awake_at (k : Nat) (hk : 80 ≤ k) : fleuronlaw02_awake.f k = some true := at_rounds (fun k => fleuronlaw02_awake.mono k) hk awake_true
theorem FixMuls : fleuronlaw02_FixMuls.Pure := by
  intro a b _ _
  refine ⟨200, ?_⟩
  unfold fleuronlaw02_FixMuls.f
  rw [mul_ok 200 (by omega), rmul_ok 200 (by omega), div_ok 200 (by omega), rdiv_ok 200 (by omega), awake_at 200 (by omega)]
  simp only [Option.bind_some, if_true]
theorem FixRoots : fleuronlaw02_FixRoots.Pure := by
  intro a b _ _
  refine ⟨200, ?_⟩
  unfold fleuronlaw02_FixRoots.f
  rw [sqrt_ok 200 (by omega), rsqrt_ok 200 (by omega), hypot_ok 200 (by omega), rhypot_ok 200 (by omega), awake_at 200 (by omega)]
  simp only [Option.bind_some, if_true]
theorem FixSines : fleuronlaw02_FixSines.Pure := by
  intro a _
  refine ⟨200, ?_⟩
  unfold fleuronlaw02_FixSines.f
  rw [Sine_ok 200 (by omega), rsine_ok 200 (by omega) (by omega), dir_ok 200 (by omega), rdir_ok 200 (by omega) (by omega), awake_at 200 (by omega)]
  simp only [Option.bind_some, if_true]
theorem FixTurns : fleuronlaw02_FixTurns.Pure := by
  intro x y a _ _ _
  refine ⟨200, ?_⟩
  unfold fleuronlaw02_FixTurns.f
  rw [turn_ok 200 (by omega), rturn_ok 200 (by omega) (by omega), awake_at 200 (by omega)]
  simp only [Option.bind_some, if_true]
theorem FixArgs : fleuronlaw02_FixArgs.Pure := by
  intro x y _ _
  refine ⟨200, ?_⟩
  unfold fleuronlaw02_FixArgs.f
  rw [arg_ok 200 (by omega), rarg_ok 200 (by omega) (by omega), awake_at 200 (by omega)]
  simp only [Option.bind_some, if_true]
end Go.Proofs.YtjaifahodfljkaaGreatDoor.Z
