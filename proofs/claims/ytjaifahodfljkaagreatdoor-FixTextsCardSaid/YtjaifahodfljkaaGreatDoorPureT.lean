/-
  The pure statement of FixTexts: the package's Text and Parse answer as the reference's, for every integer and string.
-/
import Derived.Test.YtjaifahodfljkaaGreatDoorTextR
import Derived.Test.YtjaifahodfljkaaGreatDoorRefA
import Derived.Test.YtjaifahodfljkaaGreatDoorZx5
import Derived.Test.YtjaifahodfljkaaGreatDoorZx10
namespace Go.Proofs.YtjaifahodfljkaaGreatDoor.Z
open Go Go.RowKit Go.Proofs.YtjaifahodfljkaaGreatDoorW.PrintWords Go.Proofs.YtjaifahodfljkaaGreatDoorW.PrintMore

theorem awake_trueT : fleuronlaw02_awake.f 80 = some true := by decide +kernel
theorem awake_atT (k : Nat) (hk : 80 ≤ k) : fleuronlaw02_awake.f k = some true := at_rounds (fun k => fleuronlaw02_awake.mono k) hk awake_trueT
theorem rtext_at (k : Nat) (hk : 200 ≤ k) (a : Int) : fleuronref02_Text.f k a = some (if isFix a = true then (B (textS a), 0) else (B [], 2)) :=
  at_rounds (fun k => fleuronref02_Text.mono a k) hk (rtext_ok 200 (by omega) (by omega) a)
theorem FixTexts : fleuronlaw02_FixTexts.Pure := by
  intro a s _ _
  refine ⟨20000, ?_⟩
  unfold fleuronlaw02_FixTexts.f
  by_cases hs : (s.size : Int) > 10000
  · rw [if_pos hs, awake_atT 20000 (by omega)]; rfl
  · rw [if_neg hs]
    have hl : s.data.toList.length ≤ 10000 := by
      have e : s.size = s.data.toList.length := by rw [Array.length_toList]; rfl
      omega
    have hp := parse_ok 20000 (by omega) s.data.toList hl
    have hr := rparse_ok 20000 s.data.toList hl (by omega)
    rw [← B_of s] at hp hr
    rw [text_ok 20000 (by omega), rtext_at 20000 (by omega), hp, hr, awake_atT 20000 (by omega)]
    simp only [Option.bind_some, if_true]
end Go.Proofs.YtjaifahodfljkaaGreatDoor.Z
