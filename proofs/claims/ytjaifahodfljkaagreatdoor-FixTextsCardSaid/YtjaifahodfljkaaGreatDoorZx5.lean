/- Laid by program (this session's, over the kit's print): functions of this seat as plain Lean functions, each with its contract. -/
import Derived.Test.YtjaifahodfljkaaGreatDoorZx0
import Derived.Test.YtjaifahodfljkaaGreatDoorZx1
import Derived.Test.YtjaifahodfljkaaGreatDoorZx2
import Derived.Test.YtjaifahodfljkaaGreatDoorZx3
import Derived.Test.YtjaifahodfljkaaGreatDoorZx4
namespace Go.Proofs.YtjaifahodfljkaaGreatDoor.Z
open Go.RowKit Go.Proofs.YtjaifahodfljkaaGreatDoorW.PrintWords Go.Proofs.YtjaifahodfljkaaGreatDoorW.PrintLast Go.Proofs.YtjaifahodfljkaaGreatDoorW.PrintMore
attribute [local go_sem] max2_int min2_int max_two min_two max_three min_three max_four min_four   -- for this text's walks alone
set_option linter.unusedVariables false
set_option linter.unusedSimpArgs false

/-! ### fleuronlaw02_awake: function 13 -/
def fleuronlaw02_awake.f (k : Nat)  : Option (Bool) := (fix_Mul.f k 98304 98304).bind fun bt224 => ((fix_Div.f k 65536 196608).bind fun bt226 => ((fix_Sqrt.f k 131072).bind fun bt228 => ((fix_Hypot.f k 3 4).bind fun bt230 => ((fix_Sine.f k 94371840).bind fun bt232 => ((fix_Arg.f k 1 1).bind fun bt235 => ((fix_Arg.f k (-5) 0).bind fun bt237 => ((fix_Arg.f k 0 (-2)).bind fun bt239 => ((fix_Text.f k 21845).bind fun bt241 => ((fix_Parse.f k (⟨#[45, 46, 53]⟩ : ByteArray)).bind fun bt243 => ((fix_Dir.f k 0).bind fun bt245 => ((fix_Turn.f k 5 7 94371840).bind fun bt248 => (if bt224.1 = 147456 then (if bt224.2 = 0 then (if bt226.1 = 21845 then (if bt226.2 = 0 then (if bt228.1 = 92682 then (if bt228.2 = 0 then (if bt230.1 = 5 then (if bt230.2 = 0 then (if bt232.1 = 268435456 then (if bt232.2.1 = 0 then (if bt232.2.2 = 0 then (if bt235.1 = 47185920 then (if bt235.2 = 0 then (if bt237.1 = 188743680 then (if bt237.2 = 0 then (if bt239.1 = (-94371840) then (if bt239.2 = 0 then (if bt241.1.toList = ([48, 46, 51, 51, 51, 51, 51] : List UInt8) then (if bt241.2 = 0 then (if bt243.1 = (-32768) then (if bt243.2 = 0 then (if bt245.1 = 65536 then (if bt245.2.1 = 0 then (if bt245.2.2 = 0 then (if bt248.1 = (-7) then (if bt248.2.1 = 5 then (some (bt248.2.2 == 0)) else (some false)) else (some false)) else (some false)) else (some false)) else (some false)) else (some false)) else (some false)) else (some false)) else (some false)) else (some false)) else (some false)) else (some false)) else (some false)) else (some false)) else (some false)) else (some false)) else (some false)) else (some false)) else (some false)) else (some false)) else (some false)) else (some false)) else (some false)) else (some false)) else (some false)) else (some false)))))))))))))
theorem fleuronlaw02_awake.mono : ∀ k, LeO (fleuronlaw02_awake.f k ) (fleuronlaw02_awake.f (k + 1) ) := by
  intro  k
  unfold fleuronlaw02_awake.f
  repeat' first
      | (with_reducible exact fix_Arg.mono _ _ _)
      | (with_reducible exact fix_Dir.mono _ _)
      | (with_reducible exact fix_Div.mono _ _ _)
      | (with_reducible exact fix_Hypot.mono _ _ _)
      | (with_reducible exact fix_Mul.mono _ _ _)
      | (with_reducible exact fix_Parse.mono _ _)
      | (with_reducible exact fix_Sine.mono _ _)
      | (with_reducible exact fix_Sqrt.mono _ _)
      | (with_reducible exact fix_Text.mono _ _)
      | (with_reducible exact fix_Turn.mono _ _ _ _)
      | (with_reducible exact LeO.refl _)
      | (with_reducible exact LeO.none _)
      | (with_reducible refine LeO.ite ?_ ?_)
      | (with_reducible refine LeO.bind ?_ (fun _ => ?_))
      | exact fix_Arg.mono _ _ _
      | exact fix_Dir.mono _ _
      | exact fix_Div.mono _ _ _
      | exact fix_Hypot.mono _ _ _
      | exact fix_Mul.mono _ _ _
      | exact fix_Parse.mono _ _
      | exact fix_Sine.mono _ _
      | exact fix_Sqrt.mono _ _
      | exact fix_Text.mono _ _
      | exact fix_Turn.mono _ _ _ _
      | exact LeO.none _
      | refine LeO.ite ?_ ?_
      | refine LeO.bind ?_ (fun _ => ?_)
set_option maxHeartbeats 8000000 in
set_option maxRecDepth 100000 in
theorem fleuronlaw02_awake.callsT (k : Nat)  (w : World) (ht_ : LaidOK w) (h : fleuronlaw02_awake.f k  = some true) :
    Calls Tryz.prog 13 #[] w fun e w' => e = .returned (.bool true) ∧ Below w.heap.size w w' := by
  have HB := Aside0.mk (Below.refl w.heap.size w)
  have HT_ := Aside0.mk ht_
  clear ht_
  have H : ((fix_Mul.f k 98304 98304).bind fun bt224 => ((fix_Div.f k 65536 196608).bind fun bt226 => ((fix_Sqrt.f k 131072).bind fun bt228 => ((fix_Hypot.f k 3 4).bind fun bt230 => ((fix_Sine.f k 94371840).bind fun bt232 => ((fix_Arg.f k 1 1).bind fun bt235 => ((fix_Arg.f k (-5) 0).bind fun bt237 => ((fix_Arg.f k 0 (-2)).bind fun bt239 => ((fix_Text.f k 21845).bind fun bt241 => ((fix_Parse.f k (⟨#[45, 46, 53]⟩ : ByteArray)).bind fun bt243 => ((fix_Dir.f k 0).bind fun bt245 => ((fix_Turn.f k 5 7 94371840).bind fun bt248 => (if bt224.1 = 147456 then (if bt224.2 = 0 then (if bt226.1 = 21845 then (if bt226.2 = 0 then (if bt228.1 = 92682 then (if bt228.2 = 0 then (if bt230.1 = 5 then (if bt230.2 = 0 then (if bt232.1 = 268435456 then (if bt232.2.1 = 0 then (if bt232.2.2 = 0 then (if bt235.1 = 47185920 then (if bt235.2 = 0 then (if bt237.1 = 188743680 then (if bt237.2 = 0 then (if bt239.1 = (-94371840) then (if bt239.2 = 0 then (if bt241.1.toList = ([48, 46, 51, 51, 51, 51, 51] : List UInt8) then (if bt241.2 = 0 then (if bt243.1 = (-32768) then (if bt243.2 = 0 then (if bt245.1 = 65536 then (if bt245.2.1 = 0 then (if bt245.2.2 = 0 then (if bt248.1 = (-7) then (if bt248.2.1 = 5 then (some (bt248.2.2 == 0)) else (some false)) else (some false)) else (some false)) else (some false)) else (some false)) else (some false)) else (some false)) else (some false)) else (some false)) else (some false)) else (some false)) else (some false)) else (some false)) else (some false)) else (some false)) else (some false)) else (some false)) else (some false)) else (some false)) else (some false)) else (some false)) else (some false)) else (some false)) else (some false)) else (some false)) else (some false)))))))))))))) = some true := h
  clear h
  replace H := Option.bind_eq_some_iff.mp H
  obtain ⟨⟨t224, t225⟩, A10, H⟩ := H
  replace H : ((fix_Div.f k 65536 196608).bind fun bt226 => ((fix_Sqrt.f k 131072).bind fun bt228 => ((fix_Hypot.f k 3 4).bind fun bt230 => ((fix_Sine.f k 94371840).bind fun bt232 => ((fix_Arg.f k 1 1).bind fun bt235 => ((fix_Arg.f k (-5) 0).bind fun bt237 => ((fix_Arg.f k 0 (-2)).bind fun bt239 => ((fix_Text.f k 21845).bind fun bt241 => ((fix_Parse.f k (⟨#[45, 46, 53]⟩ : ByteArray)).bind fun bt243 => ((fix_Dir.f k 0).bind fun bt245 => ((fix_Turn.f k 5 7 94371840).bind fun bt248 => (if t224 = 147456 then (if t225 = 0 then (if bt226.1 = 21845 then (if bt226.2 = 0 then (if bt228.1 = 92682 then (if bt228.2 = 0 then (if bt230.1 = 5 then (if bt230.2 = 0 then (if bt232.1 = 268435456 then (if bt232.2.1 = 0 then (if bt232.2.2 = 0 then (if bt235.1 = 47185920 then (if bt235.2 = 0 then (if bt237.1 = 188743680 then (if bt237.2 = 0 then (if bt239.1 = (-94371840) then (if bt239.2 = 0 then (if bt241.1.toList = ([48, 46, 51, 51, 51, 51, 51] : List UInt8) then (if bt241.2 = 0 then (if bt243.1 = (-32768) then (if bt243.2 = 0 then (if bt245.1 = 65536 then (if bt245.2.1 = 0 then (if bt245.2.2 = 0 then (if bt248.1 = (-7) then (if bt248.2.1 = 5 then (some (bt248.2.2 == 0)) else (some false)) else (some false)) else (some false)) else (some false)) else (some false)) else (some false)) else (some false)) else (some false)) else (some false)) else (some false)) else (some false)) else (some false)) else (some false)) else (some false)) else (some false)) else (some false)) else (some false)) else (some false)) else (some false)) else (some false)) else (some false)) else (some false)) else (some false)) else (some false)) else (some false)) else (some false))))))))))))) = some true := H
  have A1 := Aside0.mk A10
  clear A10
  replace H := Option.bind_eq_some_iff.mp H
  obtain ⟨⟨t226, t227⟩, A20, H⟩ := H
  replace H : ((fix_Sqrt.f k 131072).bind fun bt228 => ((fix_Hypot.f k 3 4).bind fun bt230 => ((fix_Sine.f k 94371840).bind fun bt232 => ((fix_Arg.f k 1 1).bind fun bt235 => ((fix_Arg.f k (-5) 0).bind fun bt237 => ((fix_Arg.f k 0 (-2)).bind fun bt239 => ((fix_Text.f k 21845).bind fun bt241 => ((fix_Parse.f k (⟨#[45, 46, 53]⟩ : ByteArray)).bind fun bt243 => ((fix_Dir.f k 0).bind fun bt245 => ((fix_Turn.f k 5 7 94371840).bind fun bt248 => (if t224 = 147456 then (if t225 = 0 then (if t226 = 21845 then (if t227 = 0 then (if bt228.1 = 92682 then (if bt228.2 = 0 then (if bt230.1 = 5 then (if bt230.2 = 0 then (if bt232.1 = 268435456 then (if bt232.2.1 = 0 then (if bt232.2.2 = 0 then (if bt235.1 = 47185920 then (if bt235.2 = 0 then (if bt237.1 = 188743680 then (if bt237.2 = 0 then (if bt239.1 = (-94371840) then (if bt239.2 = 0 then (if bt241.1.toList = ([48, 46, 51, 51, 51, 51, 51] : List UInt8) then (if bt241.2 = 0 then (if bt243.1 = (-32768) then (if bt243.2 = 0 then (if bt245.1 = 65536 then (if bt245.2.1 = 0 then (if bt245.2.2 = 0 then (if bt248.1 = (-7) then (if bt248.2.1 = 5 then (some (bt248.2.2 == 0)) else (some false)) else (some false)) else (some false)) else (some false)) else (some false)) else (some false)) else (some false)) else (some false)) else (some false)) else (some false)) else (some false)) else (some false)) else (some false)) else (some false)) else (some false)) else (some false)) else (some false)) else (some false)) else (some false)) else (some false)) else (some false)) else (some false)) else (some false)) else (some false)) else (some false)) else (some false)))))))))))) = some true := H
  have A2 := Aside0.mk A20
  clear A20
  replace H := Option.bind_eq_some_iff.mp H
  obtain ⟨⟨t228, t229⟩, A30, H⟩ := H
  replace H : ((fix_Hypot.f k 3 4).bind fun bt230 => ((fix_Sine.f k 94371840).bind fun bt232 => ((fix_Arg.f k 1 1).bind fun bt235 => ((fix_Arg.f k (-5) 0).bind fun bt237 => ((fix_Arg.f k 0 (-2)).bind fun bt239 => ((fix_Text.f k 21845).bind fun bt241 => ((fix_Parse.f k (⟨#[45, 46, 53]⟩ : ByteArray)).bind fun bt243 => ((fix_Dir.f k 0).bind fun bt245 => ((fix_Turn.f k 5 7 94371840).bind fun bt248 => (if t224 = 147456 then (if t225 = 0 then (if t226 = 21845 then (if t227 = 0 then (if t228 = 92682 then (if t229 = 0 then (if bt230.1 = 5 then (if bt230.2 = 0 then (if bt232.1 = 268435456 then (if bt232.2.1 = 0 then (if bt232.2.2 = 0 then (if bt235.1 = 47185920 then (if bt235.2 = 0 then (if bt237.1 = 188743680 then (if bt237.2 = 0 then (if bt239.1 = (-94371840) then (if bt239.2 = 0 then (if bt241.1.toList = ([48, 46, 51, 51, 51, 51, 51] : List UInt8) then (if bt241.2 = 0 then (if bt243.1 = (-32768) then (if bt243.2 = 0 then (if bt245.1 = 65536 then (if bt245.2.1 = 0 then (if bt245.2.2 = 0 then (if bt248.1 = (-7) then (if bt248.2.1 = 5 then (some (bt248.2.2 == 0)) else (some false)) else (some false)) else (some false)) else (some false)) else (some false)) else (some false)) else (some false)) else (some false)) else (some false)) else (some false)) else (some false)) else (some false)) else (some false)) else (some false)) else (some false)) else (some false)) else (some false)) else (some false)) else (some false)) else (some false)) else (some false)) else (some false)) else (some false)) else (some false)) else (some false)) else (some false))))))))))) = some true := H
  have A3 := Aside0.mk A30
  clear A30
  replace H := Option.bind_eq_some_iff.mp H
  obtain ⟨⟨t230, t231⟩, A40, H⟩ := H
  replace H : ((fix_Sine.f k 94371840).bind fun bt232 => ((fix_Arg.f k 1 1).bind fun bt235 => ((fix_Arg.f k (-5) 0).bind fun bt237 => ((fix_Arg.f k 0 (-2)).bind fun bt239 => ((fix_Text.f k 21845).bind fun bt241 => ((fix_Parse.f k (⟨#[45, 46, 53]⟩ : ByteArray)).bind fun bt243 => ((fix_Dir.f k 0).bind fun bt245 => ((fix_Turn.f k 5 7 94371840).bind fun bt248 => (if t224 = 147456 then (if t225 = 0 then (if t226 = 21845 then (if t227 = 0 then (if t228 = 92682 then (if t229 = 0 then (if t230 = 5 then (if t231 = 0 then (if bt232.1 = 268435456 then (if bt232.2.1 = 0 then (if bt232.2.2 = 0 then (if bt235.1 = 47185920 then (if bt235.2 = 0 then (if bt237.1 = 188743680 then (if bt237.2 = 0 then (if bt239.1 = (-94371840) then (if bt239.2 = 0 then (if bt241.1.toList = ([48, 46, 51, 51, 51, 51, 51] : List UInt8) then (if bt241.2 = 0 then (if bt243.1 = (-32768) then (if bt243.2 = 0 then (if bt245.1 = 65536 then (if bt245.2.1 = 0 then (if bt245.2.2 = 0 then (if bt248.1 = (-7) then (if bt248.2.1 = 5 then (some (bt248.2.2 == 0)) else (some false)) else (some false)) else (some false)) else (some false)) else (some false)) else (some false)) else (some false)) else (some false)) else (some false)) else (some false)) else (some false)) else (some false)) else (some false)) else (some false)) else (some false)) else (some false)) else (some false)) else (some false)) else (some false)) else (some false)) else (some false)) else (some false)) else (some false)) else (some false)) else (some false)) else (some false)))))))))) = some true := H
  have A4 := Aside0.mk A40
  clear A40
  replace H := Option.bind_eq_some_iff.mp H
  obtain ⟨⟨t232, t233, t234⟩, A50, H⟩ := H
  replace H : ((fix_Arg.f k 1 1).bind fun bt235 => ((fix_Arg.f k (-5) 0).bind fun bt237 => ((fix_Arg.f k 0 (-2)).bind fun bt239 => ((fix_Text.f k 21845).bind fun bt241 => ((fix_Parse.f k (⟨#[45, 46, 53]⟩ : ByteArray)).bind fun bt243 => ((fix_Dir.f k 0).bind fun bt245 => ((fix_Turn.f k 5 7 94371840).bind fun bt248 => (if t224 = 147456 then (if t225 = 0 then (if t226 = 21845 then (if t227 = 0 then (if t228 = 92682 then (if t229 = 0 then (if t230 = 5 then (if t231 = 0 then (if t232 = 268435456 then (if t233 = 0 then (if t234 = 0 then (if bt235.1 = 47185920 then (if bt235.2 = 0 then (if bt237.1 = 188743680 then (if bt237.2 = 0 then (if bt239.1 = (-94371840) then (if bt239.2 = 0 then (if bt241.1.toList = ([48, 46, 51, 51, 51, 51, 51] : List UInt8) then (if bt241.2 = 0 then (if bt243.1 = (-32768) then (if bt243.2 = 0 then (if bt245.1 = 65536 then (if bt245.2.1 = 0 then (if bt245.2.2 = 0 then (if bt248.1 = (-7) then (if bt248.2.1 = 5 then (some (bt248.2.2 == 0)) else (some false)) else (some false)) else (some false)) else (some false)) else (some false)) else (some false)) else (some false)) else (some false)) else (some false)) else (some false)) else (some false)) else (some false)) else (some false)) else (some false)) else (some false)) else (some false)) else (some false)) else (some false)) else (some false)) else (some false)) else (some false)) else (some false)) else (some false)) else (some false)) else (some false)) else (some false))))))))) = some true := H
  have A5 := Aside0.mk A50
  clear A50
  replace H := Option.bind_eq_some_iff.mp H
  obtain ⟨⟨t235, t236⟩, A60, H⟩ := H
  replace H : ((fix_Arg.f k (-5) 0).bind fun bt237 => ((fix_Arg.f k 0 (-2)).bind fun bt239 => ((fix_Text.f k 21845).bind fun bt241 => ((fix_Parse.f k (⟨#[45, 46, 53]⟩ : ByteArray)).bind fun bt243 => ((fix_Dir.f k 0).bind fun bt245 => ((fix_Turn.f k 5 7 94371840).bind fun bt248 => (if t224 = 147456 then (if t225 = 0 then (if t226 = 21845 then (if t227 = 0 then (if t228 = 92682 then (if t229 = 0 then (if t230 = 5 then (if t231 = 0 then (if t232 = 268435456 then (if t233 = 0 then (if t234 = 0 then (if t235 = 47185920 then (if t236 = 0 then (if bt237.1 = 188743680 then (if bt237.2 = 0 then (if bt239.1 = (-94371840) then (if bt239.2 = 0 then (if bt241.1.toList = ([48, 46, 51, 51, 51, 51, 51] : List UInt8) then (if bt241.2 = 0 then (if bt243.1 = (-32768) then (if bt243.2 = 0 then (if bt245.1 = 65536 then (if bt245.2.1 = 0 then (if bt245.2.2 = 0 then (if bt248.1 = (-7) then (if bt248.2.1 = 5 then (some (bt248.2.2 == 0)) else (some false)) else (some false)) else (some false)) else (some false)) else (some false)) else (some false)) else (some false)) else (some false)) else (some false)) else (some false)) else (some false)) else (some false)) else (some false)) else (some false)) else (some false)) else (some false)) else (some false)) else (some false)) else (some false)) else (some false)) else (some false)) else (some false)) else (some false)) else (some false)) else (some false)) else (some false)))))))) = some true := H
  have A6 := Aside0.mk A60
  clear A60
  replace H := Option.bind_eq_some_iff.mp H
  obtain ⟨⟨t237, t238⟩, A70, H⟩ := H
  replace H : ((fix_Arg.f k 0 (-2)).bind fun bt239 => ((fix_Text.f k 21845).bind fun bt241 => ((fix_Parse.f k (⟨#[45, 46, 53]⟩ : ByteArray)).bind fun bt243 => ((fix_Dir.f k 0).bind fun bt245 => ((fix_Turn.f k 5 7 94371840).bind fun bt248 => (if t224 = 147456 then (if t225 = 0 then (if t226 = 21845 then (if t227 = 0 then (if t228 = 92682 then (if t229 = 0 then (if t230 = 5 then (if t231 = 0 then (if t232 = 268435456 then (if t233 = 0 then (if t234 = 0 then (if t235 = 47185920 then (if t236 = 0 then (if t237 = 188743680 then (if t238 = 0 then (if bt239.1 = (-94371840) then (if bt239.2 = 0 then (if bt241.1.toList = ([48, 46, 51, 51, 51, 51, 51] : List UInt8) then (if bt241.2 = 0 then (if bt243.1 = (-32768) then (if bt243.2 = 0 then (if bt245.1 = 65536 then (if bt245.2.1 = 0 then (if bt245.2.2 = 0 then (if bt248.1 = (-7) then (if bt248.2.1 = 5 then (some (bt248.2.2 == 0)) else (some false)) else (some false)) else (some false)) else (some false)) else (some false)) else (some false)) else (some false)) else (some false)) else (some false)) else (some false)) else (some false)) else (some false)) else (some false)) else (some false)) else (some false)) else (some false)) else (some false)) else (some false)) else (some false)) else (some false)) else (some false)) else (some false)) else (some false)) else (some false)) else (some false)) else (some false))))))) = some true := H
  have A7 := Aside0.mk A70
  clear A70
  replace H := Option.bind_eq_some_iff.mp H
  obtain ⟨⟨t239, t240⟩, A80, H⟩ := H
  replace H : ((fix_Text.f k 21845).bind fun bt241 => ((fix_Parse.f k (⟨#[45, 46, 53]⟩ : ByteArray)).bind fun bt243 => ((fix_Dir.f k 0).bind fun bt245 => ((fix_Turn.f k 5 7 94371840).bind fun bt248 => (if t224 = 147456 then (if t225 = 0 then (if t226 = 21845 then (if t227 = 0 then (if t228 = 92682 then (if t229 = 0 then (if t230 = 5 then (if t231 = 0 then (if t232 = 268435456 then (if t233 = 0 then (if t234 = 0 then (if t235 = 47185920 then (if t236 = 0 then (if t237 = 188743680 then (if t238 = 0 then (if t239 = (-94371840) then (if t240 = 0 then (if bt241.1.toList = ([48, 46, 51, 51, 51, 51, 51] : List UInt8) then (if bt241.2 = 0 then (if bt243.1 = (-32768) then (if bt243.2 = 0 then (if bt245.1 = 65536 then (if bt245.2.1 = 0 then (if bt245.2.2 = 0 then (if bt248.1 = (-7) then (if bt248.2.1 = 5 then (some (bt248.2.2 == 0)) else (some false)) else (some false)) else (some false)) else (some false)) else (some false)) else (some false)) else (some false)) else (some false)) else (some false)) else (some false)) else (some false)) else (some false)) else (some false)) else (some false)) else (some false)) else (some false)) else (some false)) else (some false)) else (some false)) else (some false)) else (some false)) else (some false)) else (some false)) else (some false)) else (some false)) else (some false)))))) = some true := H
  have A8 := Aside0.mk A80
  clear A80
  replace H := Option.bind_eq_some_iff.mp H
  obtain ⟨⟨t241, t242⟩, A90, H⟩ := H
  replace H : ((fix_Parse.f k (⟨#[45, 46, 53]⟩ : ByteArray)).bind fun bt243 => ((fix_Dir.f k 0).bind fun bt245 => ((fix_Turn.f k 5 7 94371840).bind fun bt248 => (if t224 = 147456 then (if t225 = 0 then (if t226 = 21845 then (if t227 = 0 then (if t228 = 92682 then (if t229 = 0 then (if t230 = 5 then (if t231 = 0 then (if t232 = 268435456 then (if t233 = 0 then (if t234 = 0 then (if t235 = 47185920 then (if t236 = 0 then (if t237 = 188743680 then (if t238 = 0 then (if t239 = (-94371840) then (if t240 = 0 then (if t241.toList = ([48, 46, 51, 51, 51, 51, 51] : List UInt8) then (if t242 = 0 then (if bt243.1 = (-32768) then (if bt243.2 = 0 then (if bt245.1 = 65536 then (if bt245.2.1 = 0 then (if bt245.2.2 = 0 then (if bt248.1 = (-7) then (if bt248.2.1 = 5 then (some (bt248.2.2 == 0)) else (some false)) else (some false)) else (some false)) else (some false)) else (some false)) else (some false)) else (some false)) else (some false)) else (some false)) else (some false)) else (some false)) else (some false)) else (some false)) else (some false)) else (some false)) else (some false)) else (some false)) else (some false)) else (some false)) else (some false)) else (some false)) else (some false)) else (some false)) else (some false)) else (some false)) else (some false))))) = some true := H
  have A9 := Aside0.mk A90
  clear A90
  replace H := Option.bind_eq_some_iff.mp H
  obtain ⟨⟨t243, t244⟩, A100, H⟩ := H
  replace H : ((fix_Dir.f k 0).bind fun bt245 => ((fix_Turn.f k 5 7 94371840).bind fun bt248 => (if t224 = 147456 then (if t225 = 0 then (if t226 = 21845 then (if t227 = 0 then (if t228 = 92682 then (if t229 = 0 then (if t230 = 5 then (if t231 = 0 then (if t232 = 268435456 then (if t233 = 0 then (if t234 = 0 then (if t235 = 47185920 then (if t236 = 0 then (if t237 = 188743680 then (if t238 = 0 then (if t239 = (-94371840) then (if t240 = 0 then (if t241.toList = ([48, 46, 51, 51, 51, 51, 51] : List UInt8) then (if t242 = 0 then (if t243 = (-32768) then (if t244 = 0 then (if bt245.1 = 65536 then (if bt245.2.1 = 0 then (if bt245.2.2 = 0 then (if bt248.1 = (-7) then (if bt248.2.1 = 5 then (some (bt248.2.2 == 0)) else (some false)) else (some false)) else (some false)) else (some false)) else (some false)) else (some false)) else (some false)) else (some false)) else (some false)) else (some false)) else (some false)) else (some false)) else (some false)) else (some false)) else (some false)) else (some false)) else (some false)) else (some false)) else (some false)) else (some false)) else (some false)) else (some false)) else (some false)) else (some false)) else (some false)) else (some false)))) = some true := H
  have A10 := Aside0.mk A100
  clear A100
  replace H := Option.bind_eq_some_iff.mp H
  obtain ⟨⟨t245, t246, t247⟩, A110, H⟩ := H
  replace H : ((fix_Turn.f k 5 7 94371840).bind fun bt248 => (if t224 = 147456 then (if t225 = 0 then (if t226 = 21845 then (if t227 = 0 then (if t228 = 92682 then (if t229 = 0 then (if t230 = 5 then (if t231 = 0 then (if t232 = 268435456 then (if t233 = 0 then (if t234 = 0 then (if t235 = 47185920 then (if t236 = 0 then (if t237 = 188743680 then (if t238 = 0 then (if t239 = (-94371840) then (if t240 = 0 then (if t241.toList = ([48, 46, 51, 51, 51, 51, 51] : List UInt8) then (if t242 = 0 then (if t243 = (-32768) then (if t244 = 0 then (if t245 = 65536 then (if t246 = 0 then (if t247 = 0 then (if bt248.1 = (-7) then (if bt248.2.1 = 5 then (some (bt248.2.2 == 0)) else (some false)) else (some false)) else (some false)) else (some false)) else (some false)) else (some false)) else (some false)) else (some false)) else (some false)) else (some false)) else (some false)) else (some false)) else (some false)) else (some false)) else (some false)) else (some false)) else (some false)) else (some false)) else (some false)) else (some false)) else (some false)) else (some false)) else (some false)) else (some false)) else (some false)) else (some false))) = some true := H
  have A11 := Aside0.mk A110
  clear A110
  replace H := Option.bind_eq_some_iff.mp H
  obtain ⟨⟨t248, t249, t250⟩, A120, H⟩ := H
  replace H : (if t224 = 147456 then (if t225 = 0 then (if t226 = 21845 then (if t227 = 0 then (if t228 = 92682 then (if t229 = 0 then (if t230 = 5 then (if t231 = 0 then (if t232 = 268435456 then (if t233 = 0 then (if t234 = 0 then (if t235 = 47185920 then (if t236 = 0 then (if t237 = 188743680 then (if t238 = 0 then (if t239 = (-94371840) then (if t240 = 0 then (if t241.toList = ([48, 46, 51, 51, 51, 51, 51] : List UInt8) then (if t242 = 0 then (if t243 = (-32768) then (if t244 = 0 then (if t245 = 65536 then (if t246 = 0 then (if t247 = 0 then (if t248 = (-7) then (if t249 = 5 then (some (t250 == 0)) else (some false)) else (some false)) else (some false)) else (some false)) else (some false)) else (some false)) else (some false)) else (some false)) else (some false)) else (some false)) else (some false)) else (some false)) else (some false)) else (some false)) else (some false)) else (some false)) else (some false)) else (some false)) else (some false)) else (some false)) else (some false)) else (some false)) else (some false)) else (some false)) else (some false)) else (some false)) = some true := H
  have A12 := Aside0.mk A120
  clear A120
  by_cases c13 : t224 = 147456
  · rw [if_pos c13] at H
    have c13b0 : (t224 == 147456) = true := beq_iff_eq.mpr c13
    have c13b1 : (t224 != 147456) = false := bne_eq_false_iff_eq.mpr c13
    clear c13
    by_cases c14 : t225 = 0
    · rw [if_pos c14] at H
      have c14b0 : (t225 == 0) = true := beq_iff_eq.mpr c14
      have c14b1 : (t225 != 0) = false := bne_eq_false_iff_eq.mpr c14
      clear c14
      by_cases c15 : t226 = 21845
      · rw [if_pos c15] at H
        have c15b0 : (t226 == 21845) = true := beq_iff_eq.mpr c15
        have c15b1 : (t226 != 21845) = false := bne_eq_false_iff_eq.mpr c15
        clear c15
        by_cases c16 : t227 = 0
        · rw [if_pos c16] at H
          have c16b0 : (t227 == 0) = true := beq_iff_eq.mpr c16
          have c16b1 : (t227 != 0) = false := bne_eq_false_iff_eq.mpr c16
          clear c16
          by_cases c17 : t228 = 92682
          · rw [if_pos c17] at H
            have c17b0 : (t228 == 92682) = true := beq_iff_eq.mpr c17
            have c17b1 : (t228 != 92682) = false := bne_eq_false_iff_eq.mpr c17
            clear c17
            by_cases c18 : t229 = 0
            · rw [if_pos c18] at H
              have c18b0 : (t229 == 0) = true := beq_iff_eq.mpr c18
              have c18b1 : (t229 != 0) = false := bne_eq_false_iff_eq.mpr c18
              clear c18
              by_cases c19 : t230 = 5
              · rw [if_pos c19] at H
                have c19b0 : (t230 == 5) = true := beq_iff_eq.mpr c19
                have c19b1 : (t230 != 5) = false := bne_eq_false_iff_eq.mpr c19
                clear c19
                by_cases c20 : t231 = 0
                · rw [if_pos c20] at H
                  have c20b0 : (t231 == 0) = true := beq_iff_eq.mpr c20
                  have c20b1 : (t231 != 0) = false := bne_eq_false_iff_eq.mpr c20
                  clear c20
                  by_cases c21 : t232 = 268435456
                  · rw [if_pos c21] at H
                    have c21b0 : (t232 == 268435456) = true := beq_iff_eq.mpr c21
                    have c21b1 : (t232 != 268435456) = false := bne_eq_false_iff_eq.mpr c21
                    clear c21
                    by_cases c22 : t233 = 0
                    · rw [if_pos c22] at H
                      have c22b0 : (t233 == 0) = true := beq_iff_eq.mpr c22
                      have c22b1 : (t233 != 0) = false := bne_eq_false_iff_eq.mpr c22
                      clear c22
                      by_cases c23 : t234 = 0
                      · rw [if_pos c23] at H
                        have c23b0 : (t234 == 0) = true := beq_iff_eq.mpr c23
                        have c23b1 : (t234 != 0) = false := bne_eq_false_iff_eq.mpr c23
                        clear c23
                        by_cases c24 : t235 = 47185920
                        · rw [if_pos c24] at H
                          have c24b0 : (t235 == 47185920) = true := beq_iff_eq.mpr c24
                          have c24b1 : (t235 != 47185920) = false := bne_eq_false_iff_eq.mpr c24
                          clear c24
                          by_cases c25 : t236 = 0
                          · rw [if_pos c25] at H
                            have c25b0 : (t236 == 0) = true := beq_iff_eq.mpr c25
                            have c25b1 : (t236 != 0) = false := bne_eq_false_iff_eq.mpr c25
                            clear c25
                            by_cases c26 : t237 = 188743680
                            · rw [if_pos c26] at H
                              have c26b0 : (t237 == 188743680) = true := beq_iff_eq.mpr c26
                              have c26b1 : (t237 != 188743680) = false := bne_eq_false_iff_eq.mpr c26
                              clear c26
                              by_cases c27 : t238 = 0
                              · rw [if_pos c27] at H
                                have c27b0 : (t238 == 0) = true := beq_iff_eq.mpr c27
                                have c27b1 : (t238 != 0) = false := bne_eq_false_iff_eq.mpr c27
                                clear c27
                                by_cases c28 : t239 = (-94371840)
                                · rw [if_pos c28] at H
                                  have c28b0 : (t239 == (-94371840)) = true := beq_iff_eq.mpr c28
                                  have c28b1 : (t239 != (-94371840)) = false := bne_eq_false_iff_eq.mpr c28
                                  clear c28
                                  by_cases c29 : t240 = 0
                                  · rw [if_pos c29] at H
                                    have c29b0 : (t240 == 0) = true := beq_iff_eq.mpr c29
                                    have c29b1 : (t240 != 0) = false := bne_eq_false_iff_eq.mpr c29
                                    clear c29
                                    by_cases c30 : t241.toList = ([48, 46, 51, 51, 51, 51, 51] : List UInt8)
                                    · rw [if_pos c30] at H
                                      have c30b0 : (t241.toList == ([48, 46, 51, 51, 51, 51, 51] : List UInt8)) = true := beq_iff_eq.mpr c30
                                      have c30b1 : (t241.toList != ([48, 46, 51, 51, 51, 51, 51] : List UInt8)) = false := bne_eq_false_iff_eq.mpr c30
                                      clear c30
                                      by_cases c31 : t242 = 0
                                      · rw [if_pos c31] at H
                                        have c31b0 : (t242 == 0) = true := beq_iff_eq.mpr c31
                                        have c31b1 : (t242 != 0) = false := bne_eq_false_iff_eq.mpr c31
                                        clear c31
                                        by_cases c32 : t243 = (-32768)
                                        · rw [if_pos c32] at H
                                          have c32b0 : (t243 == (-32768)) = true := beq_iff_eq.mpr c32
                                          have c32b1 : (t243 != (-32768)) = false := bne_eq_false_iff_eq.mpr c32
                                          clear c32
                                          by_cases c33 : t244 = 0
                                          · rw [if_pos c33] at H
                                            have c33b0 : (t244 == 0) = true := beq_iff_eq.mpr c33
                                            have c33b1 : (t244 != 0) = false := bne_eq_false_iff_eq.mpr c33
                                            clear c33
                                            by_cases c34 : t245 = 65536
                                            · rw [if_pos c34] at H
                                              have c34b0 : (t245 == 65536) = true := beq_iff_eq.mpr c34
                                              have c34b1 : (t245 != 65536) = false := bne_eq_false_iff_eq.mpr c34
                                              clear c34
                                              by_cases c35 : t246 = 0
                                              · rw [if_pos c35] at H
                                                have c35b0 : (t246 == 0) = true := beq_iff_eq.mpr c35
                                                have c35b1 : (t246 != 0) = false := bne_eq_false_iff_eq.mpr c35
                                                clear c35
                                                by_cases c36 : t247 = 0
                                                · rw [if_pos c36] at H
                                                  have c36b0 : (t247 == 0) = true := beq_iff_eq.mpr c36
                                                  have c36b1 : (t247 != 0) = false := bne_eq_false_iff_eq.mpr c36
                                                  clear c36
                                                  by_cases c37 : t248 = (-7)
                                                  · rw [if_pos c37] at H
                                                    have c37b0 : (t248 == (-7)) = true := beq_iff_eq.mpr c37
                                                    have c37b1 : (t248 != (-7)) = false := bne_eq_false_iff_eq.mpr c37
                                                    clear c37
                                                    by_cases c38 : t249 = 5
                                                    · rw [if_pos c38] at H
                                                      have c38b0 : (t249 == 5) = true := beq_iff_eq.mpr c38
                                                      have c38b1 : (t249 != 5) = false := bne_eq_false_iff_eq.mpr c38
                                                      clear c38
                                                      have hr_ := Option.some.inj H
                                                      clear H
                                                      go_enter Tryz.func13, Tryz.ntmps13
                                                      go_wp2_with (first | ((with_reducible refine gate_callee (f := 9) rfl ?_); refine goesL_ (some 29) rfl rfl Tryz.func9 (by kernel_rfl) rfl #[.int .i64 98304, .int .i64 98304] rfl (by (try simp only [List.map_toArray, List.map_cons, List.map_nil]); first | done | rfl | (simp only [List.length_drop, List.length_take]; rfl)) ?_; (with_reducible refine (fix_Mul.calls k 98304 98304 t224 t225 _ A1.out).mono ?_); rintro e w39 ⟨rfl, hb⟩; refine ⟨_, rfl, ?_⟩; have n0_ := Aside0.mk (below_step (by repeat (first | (with_reducible first | exact HB.out | apply below_alloc | apply pw_below_drewN | apply below_drew1) | exact HB.out)) hb); clear HB; have HB := n0_; clear n0_; (try clear hb); (try clear hb2); (try clear hk); (try clear hi)) | ((with_reducible refine gate_callee (f := 11) rfl ?_); refine goesL_ (some 33) rfl rfl Tryz.func11 (by kernel_rfl) rfl #[.int .i64 65536, .int .i64 196608] rfl (by (try simp only [List.map_toArray, List.map_cons, List.map_nil]); first | done | rfl | (simp only [List.length_drop, List.length_take]; rfl)) ?_; (with_reducible refine (fix_Div.calls k 65536 196608 t226 t227 _ A2.out).mono ?_); rintro e w40 ⟨rfl, hb⟩; refine ⟨_, rfl, ?_⟩; have n0_ := Aside0.mk (below_step (by repeat (first | (with_reducible first | exact HB.out | apply below_alloc | apply pw_below_drewN | apply below_drew1) | exact HB.out)) hb); clear HB; have HB := n0_; clear n0_; (try clear hb); (try clear hb2); (try clear hk); (try clear hi)) | ((with_reducible refine gate_callee (f := 14) rfl ?_); refine goesL_ (some 37) rfl rfl Tryz.func14 (by kernel_rfl) rfl #[.int .i64 131072] rfl (by (try simp only [List.map_toArray, List.map_cons, List.map_nil]); first | done | rfl | (simp only [List.length_drop, List.length_take]; rfl)) ?_; (with_reducible refine (fix_Sqrt.calls k 131072 t228 t229 _ A3.out).mono ?_); rintro e w41 ⟨rfl, hb⟩; refine ⟨_, rfl, ?_⟩; have n0_ := Aside0.mk (below_step (by repeat (first | (with_reducible first | exact HB.out | apply below_alloc | apply pw_below_drewN | apply below_drew1) | exact HB.out)) hb); clear HB; have HB := n0_; clear n0_; (try clear hb); (try clear hb2); (try clear hk); (try clear hi)) | ((with_reducible refine gate_callee (f := 16) rfl ?_); refine goesL_ (some 41) rfl rfl Tryz.func16 (by kernel_rfl) rfl #[.int .i64 3, .int .i64 4] rfl (by (try simp only [List.map_toArray, List.map_cons, List.map_nil]); first | done | rfl | (simp only [List.length_drop, List.length_take]; rfl)) ?_; (with_reducible refine (fix_Hypot.calls k 3 4 t230 t231 _ A4.out).mono ?_); rintro e w42 ⟨rfl, hb⟩; refine ⟨_, rfl, ?_⟩; have n0_ := Aside0.mk (below_step (by repeat (first | (with_reducible first | exact HB.out | apply below_alloc | apply pw_below_drewN | apply below_drew1) | exact HB.out)) hb); clear HB; have HB := n0_; clear n0_; (try clear hb); (try clear hb2); (try clear hk); (try clear hi)) | ((with_reducible refine gate_callee (f := 18) rfl ?_); refine goesL_ (some 45) rfl rfl Tryz.func18 (by kernel_rfl) rfl #[.int .i64 94371840] rfl (by (try simp only [List.map_toArray, List.map_cons, List.map_nil]); first | done | rfl | (simp only [List.length_drop, List.length_take]; rfl)) ?_; (with_reducible refine (fix_Sine.calls k 94371840 t232 t233 t234 _ A5.out).mono ?_); rintro e w43 ⟨rfl, hb⟩; refine ⟨_, rfl, ?_⟩; have n0_ := Aside0.mk (below_step (by repeat (first | (with_reducible first | exact HB.out | apply below_alloc | apply pw_below_drewN | apply below_drew1) | exact HB.out)) hb); clear HB; have HB := n0_; clear n0_; (try clear hb); (try clear hb2); (try clear hk); (try clear hi)) | ((with_reducible refine gate_callee (f := 24) rfl ?_); refine goesL_ (some 50) rfl rfl Tryz.func24 (by kernel_rfl) rfl #[.int .i64 1, .int .i64 1] rfl (by (try simp only [List.map_toArray, List.map_cons, List.map_nil]); first | done | rfl | (simp only [List.length_drop, List.length_take]; rfl)) ?_; (with_reducible refine (fix_Arg.calls k 1 1 t235 t236 _ A6.out).mono ?_); rintro e w44 ⟨rfl, hb⟩; refine ⟨_, rfl, ?_⟩; have n0_ := Aside0.mk (below_step (by repeat (first | (with_reducible first | exact HB.out | apply below_alloc | apply pw_below_drewN | apply below_drew1) | exact HB.out)) hb); clear HB; have HB := n0_; clear n0_; (try clear hb); (try clear hb2); (try clear hk); (try clear hi)) | ((with_reducible refine gate_callee (f := 24) rfl ?_); refine goesL_ (some 54) rfl rfl Tryz.func24 (by kernel_rfl) rfl #[.int .i64 (-5), .int .i64 0] rfl (by (try simp only [List.map_toArray, List.map_cons, List.map_nil]); first | done | rfl | (simp only [List.length_drop, List.length_take]; rfl)) ?_; (with_reducible refine (fix_Arg.calls k (-5) 0 t237 t238 _ A7.out).mono ?_); rintro e w45 ⟨rfl, hb⟩; refine ⟨_, rfl, ?_⟩; have n0_ := Aside0.mk (below_step (by repeat (first | (with_reducible first | exact HB.out | apply below_alloc | apply pw_below_drewN | apply below_drew1) | exact HB.out)) hb); clear HB; have HB := n0_; clear n0_; (try clear hb); (try clear hb2); (try clear hk); (try clear hi)) | ((with_reducible refine gate_callee (f := 24) rfl ?_); refine goesL_ (some 58) rfl rfl Tryz.func24 (by kernel_rfl) rfl #[.int .i64 0, .int .i64 (-2)] rfl (by (try simp only [List.map_toArray, List.map_cons, List.map_nil]); first | done | rfl | (simp only [List.length_drop, List.length_take]; rfl)) ?_; (with_reducible refine (fix_Arg.calls k 0 (-2) t239 t240 _ A8.out).mono ?_); rintro e w46 ⟨rfl, hb⟩; refine ⟨_, rfl, ?_⟩; have n0_ := Aside0.mk (below_step (by repeat (first | (with_reducible first | exact HB.out | apply below_alloc | apply pw_below_drewN | apply below_drew1) | exact HB.out)) hb); clear HB; have HB := n0_; clear n0_; (try clear hb); (try clear hb2); (try clear hk); (try clear hi)) | ((with_reducible refine gate_callee (f := 26) rfl ?_); refine goesL_ (some 62) rfl rfl Tryz.func26 (by kernel_rfl) rfl #[.int .i64 21845] rfl (by (try simp only [List.map_toArray, List.map_cons, List.map_nil]); first | done | rfl | (simp only [List.length_drop, List.length_take]; rfl)) ?_; (with_reducible refine (fix_Text.calls k 21845 t241 t242 _ ?side1 A9.out).mono ?_); (case side1 => exact LaidOK.below HT_.out (by repeat (first | (with_reducible first | exact HB.out | apply below_alloc | apply pw_below_drewN | apply below_drew1) | exact HB.out))); rintro e w47 ⟨rfl, hb⟩; refine ⟨_, rfl, ?_⟩; have n0_ := Aside0.mk (below_step (by repeat (first | (with_reducible first | exact HB.out | apply below_alloc | apply pw_below_drewN | apply below_drew1) | exact HB.out)) hb); clear HB; have HB := n0_; clear n0_; (try clear hb); (try clear hb2); (try clear hk); (try clear hi)) | ((with_reducible refine gate_callee (f := 28) rfl ?_); refine goesL_ (some 66) rfl rfl Tryz.func28 (by kernel_rfl) rfl #[.string (⟨#[45, 46, 53]⟩ : ByteArray)] rfl (by (try simp only [List.map_toArray, List.map_cons, List.map_nil]); first | done | rfl | (simp only [List.length_drop, List.length_take]; rfl)) ?_; (with_reducible refine (fix_Parse.calls k (⟨#[45, 46, 53]⟩ : ByteArray) t243 t244 _ ?side1 A10.out).mono ?_); (case side1 => exact LaidOK.below HT_.out (by repeat (first | (with_reducible first | exact HB.out | apply below_alloc | apply pw_below_drewN | apply below_drew1) | exact HB.out))); rintro e w48 ⟨rfl, hb⟩; refine ⟨_, rfl, ?_⟩; have n0_ := Aside0.mk (below_step (by repeat (first | (with_reducible first | exact HB.out | apply below_alloc | apply pw_below_drewN | apply below_drew1) | exact HB.out)) hb); clear HB; have HB := n0_; clear n0_; (try clear hb); (try clear hb2); (try clear hk); (try clear hi)) | ((with_reducible refine gate_callee (f := 20) rfl ?_); refine goesL_ (some 70) rfl rfl Tryz.func20 (by kernel_rfl) rfl #[.int .i64 0] rfl (by (try simp only [List.map_toArray, List.map_cons, List.map_nil]); first | done | rfl | (simp only [List.length_drop, List.length_take]; rfl)) ?_; (with_reducible refine (fix_Dir.calls k 0 t245 t246 t247 _ A11.out).mono ?_); rintro e w49 ⟨rfl, hb⟩; refine ⟨_, rfl, ?_⟩; have n0_ := Aside0.mk (below_step (by repeat (first | (with_reducible first | exact HB.out | apply below_alloc | apply pw_below_drewN | apply below_drew1) | exact HB.out)) hb); clear HB; have HB := n0_; clear n0_; (try clear hb); (try clear hb2); (try clear hk); (try clear hi)) | ((with_reducible refine gate_callee (f := 22) rfl ?_); refine goesL_ (some 75) rfl rfl Tryz.func22 (by kernel_rfl) rfl #[.int .i64 5, .int .i64 7, .int .i64 94371840] rfl (by (try simp only [List.map_toArray, List.map_cons, List.map_nil]); first | done | rfl | (simp only [List.length_drop, List.length_take]; rfl)) ?_; (with_reducible refine (fix_Turn.calls k 5 7 94371840 t248 t249 t250 _ A12.out).mono ?_); rintro e w50 ⟨rfl, hb⟩; refine ⟨_, rfl, ?_⟩; have n0_ := Aside0.mk (below_step (by repeat (first | (with_reducible first | exact HB.out | apply below_alloc | apply pw_below_drewN | apply below_drew1) | exact HB.out)) hb); clear HB; have HB := n0_; clear n0_; (try clear hb); (try clear hb2); (try clear hk); (try clear hi)))
                                                      go_ret
                                                      exact ⟨by first | rfl | (simp [errW_none, errW_some] <;> rfl) | (simp [*, errW_none, errW_some] <;> rfl), by repeat (first | (with_reducible first | exact HB.out | apply below_alloc | apply pw_below_drewN | apply below_drew1) | exact HB.out)⟩
                                                    · rw [if_neg c38] at H
                                                      have c38b0 : (t249 == 5) = false := beq_eq_false_iff_ne.mpr c38
                                                      have c38b1 : (t249 != 5) = true := bne_iff_ne.mpr c38
                                                      exact absurd H (by simp)
                                                  · rw [if_neg c37] at H
                                                    have c37b0 : (t248 == (-7)) = false := beq_eq_false_iff_ne.mpr c37
                                                    have c37b1 : (t248 != (-7)) = true := bne_iff_ne.mpr c37
                                                    exact absurd H (by simp)
                                                · rw [if_neg c36] at H
                                                  have c36b0 : (t247 == 0) = false := beq_eq_false_iff_ne.mpr c36
                                                  have c36b1 : (t247 != 0) = true := bne_iff_ne.mpr c36
                                                  exact absurd H (by simp)
                                              · rw [if_neg c35] at H
                                                have c35b0 : (t246 == 0) = false := beq_eq_false_iff_ne.mpr c35
                                                have c35b1 : (t246 != 0) = true := bne_iff_ne.mpr c35
                                                exact absurd H (by simp)
                                            · rw [if_neg c34] at H
                                              have c34b0 : (t245 == 65536) = false := beq_eq_false_iff_ne.mpr c34
                                              have c34b1 : (t245 != 65536) = true := bne_iff_ne.mpr c34
                                              exact absurd H (by simp)
                                          · rw [if_neg c33] at H
                                            have c33b0 : (t244 == 0) = false := beq_eq_false_iff_ne.mpr c33
                                            have c33b1 : (t244 != 0) = true := bne_iff_ne.mpr c33
                                            exact absurd H (by simp)
                                        · rw [if_neg c32] at H
                                          have c32b0 : (t243 == (-32768)) = false := beq_eq_false_iff_ne.mpr c32
                                          have c32b1 : (t243 != (-32768)) = true := bne_iff_ne.mpr c32
                                          exact absurd H (by simp)
                                      · rw [if_neg c31] at H
                                        have c31b0 : (t242 == 0) = false := beq_eq_false_iff_ne.mpr c31
                                        have c31b1 : (t242 != 0) = true := bne_iff_ne.mpr c31
                                        exact absurd H (by simp)
                                    · rw [if_neg c30] at H
                                      have c30b0 : (t241.toList == ([48, 46, 51, 51, 51, 51, 51] : List UInt8)) = false := beq_eq_false_iff_ne.mpr c30
                                      have c30b1 : (t241.toList != ([48, 46, 51, 51, 51, 51, 51] : List UInt8)) = true := bne_iff_ne.mpr c30
                                      exact absurd H (by simp)
                                  · rw [if_neg c29] at H
                                    have c29b0 : (t240 == 0) = false := beq_eq_false_iff_ne.mpr c29
                                    have c29b1 : (t240 != 0) = true := bne_iff_ne.mpr c29
                                    exact absurd H (by simp)
                                · rw [if_neg c28] at H
                                  have c28b0 : (t239 == (-94371840)) = false := beq_eq_false_iff_ne.mpr c28
                                  have c28b1 : (t239 != (-94371840)) = true := bne_iff_ne.mpr c28
                                  exact absurd H (by simp)
                              · rw [if_neg c27] at H
                                have c27b0 : (t238 == 0) = false := beq_eq_false_iff_ne.mpr c27
                                have c27b1 : (t238 != 0) = true := bne_iff_ne.mpr c27
                                exact absurd H (by simp)
                            · rw [if_neg c26] at H
                              have c26b0 : (t237 == 188743680) = false := beq_eq_false_iff_ne.mpr c26
                              have c26b1 : (t237 != 188743680) = true := bne_iff_ne.mpr c26
                              exact absurd H (by simp)
                          · rw [if_neg c25] at H
                            have c25b0 : (t236 == 0) = false := beq_eq_false_iff_ne.mpr c25
                            have c25b1 : (t236 != 0) = true := bne_iff_ne.mpr c25
                            exact absurd H (by simp)
                        · rw [if_neg c24] at H
                          have c24b0 : (t235 == 47185920) = false := beq_eq_false_iff_ne.mpr c24
                          have c24b1 : (t235 != 47185920) = true := bne_iff_ne.mpr c24
                          exact absurd H (by simp)
                      · rw [if_neg c23] at H
                        have c23b0 : (t234 == 0) = false := beq_eq_false_iff_ne.mpr c23
                        have c23b1 : (t234 != 0) = true := bne_iff_ne.mpr c23
                        exact absurd H (by simp)
                    · rw [if_neg c22] at H
                      have c22b0 : (t233 == 0) = false := beq_eq_false_iff_ne.mpr c22
                      have c22b1 : (t233 != 0) = true := bne_iff_ne.mpr c22
                      exact absurd H (by simp)
                  · rw [if_neg c21] at H
                    have c21b0 : (t232 == 268435456) = false := beq_eq_false_iff_ne.mpr c21
                    have c21b1 : (t232 != 268435456) = true := bne_iff_ne.mpr c21
                    exact absurd H (by simp)
                · rw [if_neg c20] at H
                  have c20b0 : (t231 == 0) = false := beq_eq_false_iff_ne.mpr c20
                  have c20b1 : (t231 != 0) = true := bne_iff_ne.mpr c20
                  exact absurd H (by simp)
              · rw [if_neg c19] at H
                have c19b0 : (t230 == 5) = false := beq_eq_false_iff_ne.mpr c19
                have c19b1 : (t230 != 5) = true := bne_iff_ne.mpr c19
                exact absurd H (by simp)
            · rw [if_neg c18] at H
              have c18b0 : (t229 == 0) = false := beq_eq_false_iff_ne.mpr c18
              have c18b1 : (t229 != 0) = true := bne_iff_ne.mpr c18
              exact absurd H (by simp)
          · rw [if_neg c17] at H
            have c17b0 : (t228 == 92682) = false := beq_eq_false_iff_ne.mpr c17
            have c17b1 : (t228 != 92682) = true := bne_iff_ne.mpr c17
            exact absurd H (by simp)
        · rw [if_neg c16] at H
          have c16b0 : (t227 == 0) = false := beq_eq_false_iff_ne.mpr c16
          have c16b1 : (t227 != 0) = true := bne_iff_ne.mpr c16
          exact absurd H (by simp)
      · rw [if_neg c15] at H
        have c15b0 : (t226 == 21845) = false := beq_eq_false_iff_ne.mpr c15
        have c15b1 : (t226 != 21845) = true := bne_iff_ne.mpr c15
        exact absurd H (by simp)
    · rw [if_neg c14] at H
      have c14b0 : (t225 == 0) = false := beq_eq_false_iff_ne.mpr c14
      have c14b1 : (t225 != 0) = true := bne_iff_ne.mpr c14
      exact absurd H (by simp)
  · rw [if_neg c13] at H
    have c13b0 : (t224 == 147456) = false := beq_eq_false_iff_ne.mpr c13
    have c13b1 : (t224 != 147456) = true := bne_iff_ne.mpr c13
    exact absurd H (by simp)

/-! ### fleuronlaw02_FixMuls: function 3 -/
def fleuronlaw02_FixMuls.f (k : Nat) (a0 : Int) (a1 : Int) : Option (Bool) := (fix_Mul.f k a0 a1).bind fun bt251 => ((fleuronref02_Mul.f k a0 a1).bind fun bt253 => ((fix_Div.f k a0 a1).bind fun bt255 => ((fleuronref02_Div.f k a0 a1).bind fun bt257 => (if bt251.1 = bt253.1 then (if bt251.2 = bt253.2 then (if bt255.1 = bt257.1 then (if bt255.2 = bt257.2 then ((fleuronlaw02_awake.f k).bind fun t259 => (some t259)) else (some false)) else (some false)) else (some false)) else (some false)))))
theorem fleuronlaw02_FixMuls.mono : ∀ a0 a1 k, LeO (fleuronlaw02_FixMuls.f k a0 a1) (fleuronlaw02_FixMuls.f (k + 1) a0 a1) := by
  intro a0 a1 k
  unfold fleuronlaw02_FixMuls.f
  repeat' first
      | (with_reducible exact fix_Div.mono _ _ _)
      | (with_reducible exact fix_Mul.mono _ _ _)
      | (with_reducible exact fleuronlaw02_awake.mono _)
      | (with_reducible exact fleuronref02_Div.mono _ _ _)
      | (with_reducible exact fleuronref02_Mul.mono _ _ _)
      | (with_reducible exact LeO.refl _)
      | (with_reducible exact LeO.none _)
      | (with_reducible refine LeO.ite ?_ ?_)
      | (with_reducible refine LeO.bind ?_ (fun _ => ?_))
      | exact fix_Div.mono _ _ _
      | exact fix_Mul.mono _ _ _
      | exact fleuronlaw02_awake.mono _
      | exact fleuronref02_Div.mono _ _ _
      | exact fleuronref02_Mul.mono _ _ _
      | exact LeO.none _
      | refine LeO.ite ?_ ?_
      | refine LeO.bind ?_ (fun _ => ?_)
set_option maxHeartbeats 8000000 in
set_option maxRecDepth 100000 in
theorem fleuronlaw02_FixMuls.callsT (k : Nat) (a0 : Int) (a1 : Int) (w : World) (ht_ : LaidOK w) (h : fleuronlaw02_FixMuls.f k a0 a1 = some true) :
    Calls Tryz.prog 3 #[.int .i64 a0, .int .i64 a1] w fun e w' => e = .returned (.bool true) ∧ Below w.heap.size w w' := by
  have HB := Aside0.mk (Below.refl w.heap.size w)
  have HT_ := Aside0.mk ht_
  clear ht_
  have H : ((fix_Mul.f k a0 a1).bind fun bt251 => ((fleuronref02_Mul.f k a0 a1).bind fun bt253 => ((fix_Div.f k a0 a1).bind fun bt255 => ((fleuronref02_Div.f k a0 a1).bind fun bt257 => (if bt251.1 = bt253.1 then (if bt251.2 = bt253.2 then (if bt255.1 = bt257.1 then (if bt255.2 = bt257.2 then ((fleuronlaw02_awake.f k).bind fun t259 => (some t259)) else (some false)) else (some false)) else (some false)) else (some false)))))) = some true := h
  clear h
  replace H := Option.bind_eq_some_iff.mp H
  obtain ⟨⟨t251, t252⟩, A30, H⟩ := H
  replace H : ((fleuronref02_Mul.f k a0 a1).bind fun bt253 => ((fix_Div.f k a0 a1).bind fun bt255 => ((fleuronref02_Div.f k a0 a1).bind fun bt257 => (if t251 = bt253.1 then (if t252 = bt253.2 then (if bt255.1 = bt257.1 then (if bt255.2 = bt257.2 then ((fleuronlaw02_awake.f k).bind fun t259 => (some t259)) else (some false)) else (some false)) else (some false)) else (some false))))) = some true := H
  have A3 := Aside0.mk A30
  clear A30
  replace H := Option.bind_eq_some_iff.mp H
  obtain ⟨⟨t253, t254⟩, A40, H⟩ := H
  replace H : ((fix_Div.f k a0 a1).bind fun bt255 => ((fleuronref02_Div.f k a0 a1).bind fun bt257 => (if t251 = t253 then (if t252 = t254 then (if bt255.1 = bt257.1 then (if bt255.2 = bt257.2 then ((fleuronlaw02_awake.f k).bind fun t259 => (some t259)) else (some false)) else (some false)) else (some false)) else (some false)))) = some true := H
  have A4 := Aside0.mk A40
  clear A40
  replace H := Option.bind_eq_some_iff.mp H
  obtain ⟨⟨t255, t256⟩, A50, H⟩ := H
  replace H : ((fleuronref02_Div.f k a0 a1).bind fun bt257 => (if t251 = t253 then (if t252 = t254 then (if t255 = bt257.1 then (if t256 = bt257.2 then ((fleuronlaw02_awake.f k).bind fun t259 => (some t259)) else (some false)) else (some false)) else (some false)) else (some false))) = some true := H
  have A5 := Aside0.mk A50
  clear A50
  replace H := Option.bind_eq_some_iff.mp H
  obtain ⟨⟨t257, t258⟩, A60, H⟩ := H
  replace H : (if t251 = t253 then (if t252 = t254 then (if t255 = t257 then (if t256 = t258 then ((fleuronlaw02_awake.f k).bind fun t259 => (some t259)) else (some false)) else (some false)) else (some false)) else (some false)) = some true := H
  have A6 := Aside0.mk A60
  clear A60
  by_cases c7 : t251 = t253
  · rw [if_pos c7] at H
    have c7b0 : (t251 == t253) = true := beq_iff_eq.mpr c7
    have c7b1 : (t251 != t253) = false := bne_eq_false_iff_eq.mpr c7
    clear c7
    by_cases c8 : t252 = t254
    · rw [if_pos c8] at H
      have c8b0 : (t252 == t254) = true := beq_iff_eq.mpr c8
      have c8b1 : (t252 != t254) = false := bne_eq_false_iff_eq.mpr c8
      clear c8
      by_cases c9 : t255 = t257
      · rw [if_pos c9] at H
        have c9b0 : (t255 == t257) = true := beq_iff_eq.mpr c9
        have c9b1 : (t255 != t257) = false := bne_eq_false_iff_eq.mpr c9
        clear c9
        by_cases c10 : t256 = t258
        · rw [if_pos c10] at H
          have c10b0 : (t256 == t258) = true := beq_iff_eq.mpr c10
          have c10b1 : (t256 != t258) = false := bne_eq_false_iff_eq.mpr c10
          clear c10
          replace H := Option.bind_eq_some_iff.mp H
          obtain ⟨t259, A110, H⟩ := H
          replace H : (some t259) = some true := H
          have A11 := Aside0.mk A110
          clear A110
          have hr_ := Option.some.inj H
          clear H
          go_enter Tryz.func3, Tryz.ntmps3
          go_wp2_with (first | ((with_reducible refine gate_callee (f := 9) rfl ?_); refine goesL_ (some 16) rfl rfl Tryz.func9 (by kernel_rfl) rfl #[.int .i64 a0, .int .i64 a1] rfl (by (try simp only [List.map_toArray, List.map_cons, List.map_nil]); first | done | rfl | (simp only [List.length_drop, List.length_take]; rfl)) ?_; (with_reducible refine (fix_Mul.calls k a0 a1 t251 t252 _ A3.out).mono ?_); rintro e w12 ⟨rfl, hb⟩; refine ⟨_, rfl, ?_⟩; have n0_ := Aside0.mk (below_step (by repeat (first | (with_reducible first | exact HB.out | apply below_alloc | apply pw_below_drewN | apply below_drew1) | exact HB.out)) hb); clear HB; have HB := n0_; clear n0_; (try clear hb); (try clear hb2); (try clear hk); (try clear hi)) | ((with_reducible refine gate_callee (f := 10) rfl ?_); refine goesL_ (some 22) rfl rfl Tryz.func10 (by kernel_rfl) rfl #[.int .i64 a0, .int .i64 a1] rfl (by (try simp only [List.map_toArray, List.map_cons, List.map_nil]); first | done | rfl | (simp only [List.length_drop, List.length_take]; rfl)) ?_; (with_reducible refine (fleuronref02_Mul.calls k a0 a1 t253 t254 _ A4.out).mono ?_); rintro e w13 ⟨rfl, hb⟩; refine ⟨_, rfl, ?_⟩; have n0_ := Aside0.mk (below_step (by repeat (first | (with_reducible first | exact HB.out | apply below_alloc | apply pw_below_drewN | apply below_drew1) | exact HB.out)) hb); clear HB; have HB := n0_; clear n0_; (try clear hb); (try clear hb2); (try clear hk); (try clear hi)) | ((with_reducible refine gate_callee (f := 11) rfl ?_); refine goesL_ (some 28) rfl rfl Tryz.func11 (by kernel_rfl) rfl #[.int .i64 a0, .int .i64 a1] rfl (by (try simp only [List.map_toArray, List.map_cons, List.map_nil]); first | done | rfl | (simp only [List.length_drop, List.length_take]; rfl)) ?_; (with_reducible refine (fix_Div.calls k a0 a1 t255 t256 _ A5.out).mono ?_); rintro e w14 ⟨rfl, hb⟩; refine ⟨_, rfl, ?_⟩; have n0_ := Aside0.mk (below_step (by repeat (first | (with_reducible first | exact HB.out | apply below_alloc | apply pw_below_drewN | apply below_drew1) | exact HB.out)) hb); clear HB; have HB := n0_; clear n0_; (try clear hb); (try clear hb2); (try clear hk); (try clear hi)) | ((with_reducible refine gate_callee (f := 12) rfl ?_); refine goesL_ (some 34) rfl rfl Tryz.func12 (by kernel_rfl) rfl #[.int .i64 a0, .int .i64 a1] rfl (by (try simp only [List.map_toArray, List.map_cons, List.map_nil]); first | done | rfl | (simp only [List.length_drop, List.length_take]; rfl)) ?_; (with_reducible refine (fleuronref02_Div.calls k a0 a1 t257 t258 _ A6.out).mono ?_); rintro e w15 ⟨rfl, hb⟩; refine ⟨_, rfl, ?_⟩; have n0_ := Aside0.mk (below_step (by repeat (first | (with_reducible first | exact HB.out | apply below_alloc | apply pw_below_drewN | apply below_drew1) | exact HB.out)) hb); clear HB; have HB := n0_; clear n0_; (try clear hb); (try clear hb2); (try clear hk); (try clear hi)) | (go_at_call 13; (with_reducible refine (fleuronlaw02_awake.callsT k   _ ?side1 (Aside0.mk (by have z_ := A11.out; rw [show t259 = true by assumption] at z_; exact z_)).out).mono ?_); (case side1 => exact LaidOK.below HT_.out (by repeat (first | (with_reducible first | exact HB.out | apply below_alloc | apply pw_below_drewN | apply below_drew1) | exact HB.out))); rintro e w16 ⟨rfl, hb⟩; have n0_ := Aside0.mk (below_step (by repeat (first | (with_reducible first | exact HB.out | apply below_alloc | apply pw_below_drewN | apply below_drew1) | exact HB.out)) hb); clear HB; have HB := n0_; clear n0_; (try clear hb); (try clear hb2); (try clear hk); (try clear hi)))
          go_ret
          exact ⟨by first | rfl | (simp [errW_none, errW_some] <;> rfl) | (simp [*, errW_none, errW_some] <;> rfl), by repeat (first | (with_reducible first | exact HB.out | apply below_alloc | apply pw_below_drewN | apply below_drew1) | exact HB.out)⟩
        · rw [if_neg c10] at H
          have c10b0 : (t256 == t258) = false := beq_eq_false_iff_ne.mpr c10
          have c10b1 : (t256 != t258) = true := bne_iff_ne.mpr c10
          exact absurd H (by simp)
      · rw [if_neg c9] at H
        have c9b0 : (t255 == t257) = false := beq_eq_false_iff_ne.mpr c9
        have c9b1 : (t255 != t257) = true := bne_iff_ne.mpr c9
        exact absurd H (by simp)
    · rw [if_neg c8] at H
      have c8b0 : (t252 == t254) = false := beq_eq_false_iff_ne.mpr c8
      have c8b1 : (t252 != t254) = true := bne_iff_ne.mpr c8
      exact absurd H (by simp)
  · rw [if_neg c7] at H
    have c7b0 : (t251 == t253) = false := beq_eq_false_iff_ne.mpr c7
    have c7b1 : (t251 != t253) = true := bne_iff_ne.mpr c7
    exact absurd H (by simp)

/-- THE ONE PURE STATEMENT of fleuronlaw02_FixMuls: yours. -/
def fleuronlaw02_FixMuls.Pure : Prop := ∀ (a0 : Int) (a1 : Int), (Lit.int .i64 a0).wf = true → (Lit.int .i64 a1).wf = true → ∃ k, fleuronlaw02_FixMuls.f k a0 a1 = some true
theorem fleuronlaw02_FixMuls.walk (P : fleuronlaw02_FixMuls.Pure) (a0 : Int) (a1 : Int) (w : World) (w0 : (Lit.int .i64 a0).wf = true) (w1 : (Lit.int .i64 a1).wf = true) (ht_ : LaidOK w) :
    Calls Tryz.prog 3 #[.int .i64 a0, .int .i64 a1] w fun e w' => e = .returned (.bool true) ∧ Below w.heap.size w w' := by
  obtain ⟨k, h⟩ := P a0 a1 w0 w1
  refine (fleuronlaw02_FixMuls.callsT k a0 a1 w ht_ h).mono ?_
  rintro e w' ⟨rfl, hd⟩
  exact ⟨rfl, hd⟩

/-! ### fleuronref02_root: function 54 -/
def fleuronref02_root.l0 : Nat → Int → Int → Int → Option (Int)
  | 0, _, _, _ => none
  | k + 1, x0, x3, x4 => if x4 ≥ 0 then (if 0 ≤ x4 then (if (wrap64 (x3 + (shl .i64 1 x4))) ≤ 3037000499 then (if (wrap64 ((wrap64 (x3 + (shl .i64 1 x4))) * (wrap64 (x3 + (shl .i64 1 x4))))) ≤ x0 then (fleuronref02_root.l0 k x0 (wrap64 (x3 + (shl .i64 1 x4))) (wrap64 (x4 - 1))) else (fleuronref02_root.l0 k x0 x3 (wrap64 (x4 - 1)))) else (fleuronref02_root.l0 k x0 x3 (wrap64 (x4 - 1)))) else (none)) else (some x3)
def fleuronref02_root.f (k : Nat) (a0 : Int) : Option (Int) := fleuronref02_root.l0 k a0 0 31
theorem fleuronref02_root.mono_l : ∀ k, (∀ y0 y1 y2, LeO (fleuronref02_root.l0 k y0 y1 y2) (fleuronref02_root.l0 (k + 1) y0 y1 y2))
  | 0 => fun _ _ _ r h => by simp [fleuronref02_root.l0] at h
  | k + 1 => by
    have ih0 := fleuronref02_root.mono_l k
    · intro y0 y1 y2
      unfold fleuronref02_root.l0
      repeat' first
      | (with_reducible exact ih0 _ _ _)
      | (with_reducible exact LeO.refl _)
      | (with_reducible exact LeO.none _)
      | (with_reducible refine LeO.ite ?_ ?_)
      | (with_reducible refine LeO.bind ?_ (fun _ => ?_))
      | exact ih0 _ _ _
      | exact LeO.none _
      | refine LeO.ite ?_ ?_
      | refine LeO.bind ?_ (fun _ => ?_)
theorem fleuronref02_root.mono : ∀ a0 k, LeO (fleuronref02_root.f k a0) (fleuronref02_root.f (k + 1) a0) := by
  intro a0 k
  have ih0 := fleuronref02_root.mono_l k
  unfold fleuronref02_root.f
  repeat' first
      | (with_reducible exact ih0 _ _ _)
      | (with_reducible exact LeO.refl _)
      | (with_reducible exact LeO.none _)
      | (with_reducible refine LeO.ite ?_ ?_)
      | (with_reducible refine LeO.bind ?_ (fun _ => ?_))
      | exact ih0 _ _ _
      | exact LeO.none _
      | refine LeO.ite ?_ ?_
      | refine LeO.bind ?_ (fun _ => ?_)
set_option maxHeartbeats 8000000 in
set_option maxRecDepth 100000 in
theorem fleuronref02_root.calls (k : Nat) (a0 : Int) (r : Int) (w : World) (h : fleuronref02_root.f k a0 = some r) :
    Calls Tryz.prog 54 #[.int .i64 a0] w fun e w' => e = .returned (.int .i64 r) ∧ Drawn0 w w' := by
  have H : (fleuronref02_root.l0 k a0 0 31) = some r := h
  clear h
  have H' := Aside0.mk H
  clear H
  go_enter Tryz.func54, Tryz.ntmps54
  go_wp2
  go_loopg [3, 4] k (fun kq v3 v4 w' => ∃ (x3_1 : Int) (x4_1 : Int), v3 = .int .i64 x3_1 ∧ v4 = .int .i64 x4_1 ∧ Aside0 (fleuronref02_root.l0 kq a0 x3_1 x4_1 = some r) ∧ Aside0 (kq ≤ k) ∧ Drawn0 w w')
  case atStart => exact ⟨(0), (31), (by first | rfl | (simp; done) | (simp [*]; done)), (by first | rfl | (simp; done) | (simp [*]; done)), H', ⟨Nat.le_refl _⟩, by repeat (first | exact Drawn0.refl _ | apply Drawn0.step)⟩
  case round =>
    clear H'
    obtain ⟨x3_1, x4_1, rfl, rfl, HA, HK1, ⟨m1, rfl⟩⟩ := hrel
    cases gk with
    | zero => exact absurd HA.out (by simp [fleuronref02_root.l0])
    | succ k1 =>
      have H := HA.out
      clear HA
      simp only [fleuronref02_root.l0] at H
      by_cases c2 : x4_1 ≥ 0
      · rw [if_pos c2] at H
        have c2b0 : decide (0 ≤ x4_1) = true := decide_eq_true c2
        clear c2
        by_cases c3 : 0 ≤ x4_1
        · rw [if_pos c3] at H
          have c3b0 := eq_true c3
          have c3b1 : decide (0 ≤ x4_1) = true := decide_eq_true c3
          clear c3
          obtain ⟨ji4, hji4⟩ : ∃ j_ : Int, (shl .i64 1 x4_1) = j_ := ⟨_, rfl⟩
          replace H : (if (wrap64 (x3_1 + (ji4))) ≤ 3037000499 then (if (wrap64 ((wrap64 (x3_1 + (ji4))) * (wrap64 (x3_1 + (ji4))))) ≤ a0 then (fleuronref02_root.l0 k1 a0 (wrap64 (x3_1 + (ji4))) (wrap64 (x4_1 - 1))) else (fleuronref02_root.l0 k1 a0 x3_1 (wrap64 (x4_1 - 1)))) else (fleuronref02_root.l0 k1 a0 x3_1 (wrap64 (x4_1 - 1)))) = some r := by first | (rw [hji4] at H; exact H) | (simp only [hji4] at H ⊢; exact H)
          have hji4_ : (IntKind.i64.wrap (1 * 2 ^ min x4_1.toNat 64)) = ji4 := hji4
          have hji4z : x4_1 ≤ 64 → (IntKind.i64.wrap (1 * 2 ^ x4_1.toNat)) = ji4 := shl_small hji4
          have hji4u : (IntKind.i64.wrap (2 ^ min x4_1.toNat 64)) = ji4 := by have h_ := hji4_; rw [Int.one_mul] at h_; exact h_
          have hji4v : x4_1 ≤ 64 → (IntKind.i64.wrap (2 ^ x4_1.toNat)) = ji4 := fun hle_ => by have h_ := hji4z hle_; rw [Int.one_mul] at h_; exact h_
          have hji4y : (wrap64 (1 * 2 ^ min x4_1.toNat 64)) = ji4 := (i64_w _).symm.trans hji4_
          have hji4x : x4_1 ≤ 64 → (wrap64 (1 * 2 ^ x4_1.toNat)) = ji4 := fun h_ => (i64_w _).symm.trans (hji4z h_)
          by_cases c5 : (wrap64 (x3_1 + (ji4))) ≤ 3037000499
          · rw [if_pos c5] at H
            have c5b0 : decide ((wrap64 (x3_1 + (ji4))) ≤ 3037000499) = true := decide_eq_true c5
            clear c5
            by_cases c6 : (wrap64 ((wrap64 (x3_1 + (ji4))) * (wrap64 (x3_1 + (ji4))))) ≤ a0
            · rw [if_pos c6] at H
              have c6b0 : decide ((wrap64 ((wrap64 (x3_1 + (ji4))) * (wrap64 (x3_1 + (ji4))))) ≤ a0) = true := decide_eq_true c6
              clear c6
              have H' := Aside0.mk H
              clear H
              go_wp2
              go_roundg k1
              case measure => have := HK1.out; omega
              case rel => exact ⟨(wrap64 (x3_1 + (ji4))), (wrap64 (x4_1 - 1)), (by first | rfl | (simp; done) | (simp only [← hji4] <;> (first | rfl | simp)) | (simp [*]; done)), (by first | rfl | (simp; done) | (simp [*]; done)), H', ⟨by have := HK1.out; omega⟩, by repeat (first | exact Drawn0.refl _ | apply Drawn0.step)⟩
            · rw [if_neg c6] at H
              have c6b0 : decide ((wrap64 ((wrap64 (x3_1 + (ji4))) * (wrap64 (x3_1 + (ji4))))) ≤ a0) = false := decide_eq_false c6
              clear c6
              have H' := Aside0.mk H
              clear H
              go_wp2
              go_roundg k1
              case measure => have := HK1.out; omega
              case rel => exact ⟨(x3_1), (wrap64 (x4_1 - 1)), (by first | rfl | (simp; done) | (simp [*]; done)), (by first | rfl | (simp; done) | (simp [*]; done)), H', ⟨by have := HK1.out; omega⟩, by repeat (first | exact Drawn0.refl _ | apply Drawn0.step)⟩
          · rw [if_neg c5] at H
            have c5b0 : decide ((wrap64 (x3_1 + (ji4))) ≤ 3037000499) = false := decide_eq_false c5
            clear c5
            have H' := Aside0.mk H
            clear H
            go_wp2
            go_roundg k1
            case measure => have := HK1.out; omega
            case rel => exact ⟨(x3_1), (wrap64 (x4_1 - 1)), (by first | rfl | (simp; done) | (simp [*]; done)), (by first | rfl | (simp; done) | (simp [*]; done)), H', ⟨by have := HK1.out; omega⟩, by repeat (first | exact Drawn0.refl _ | apply Drawn0.step)⟩
        · rw [if_neg c3] at H
          exact absurd H (by simp)
      · rw [if_neg c2] at H
        have c2b0 : decide (0 ≤ x4_1) = false := decide_eq_false c2
        clear c2
        obtain rfl := Option.some.inj H
        go_wp2
        go_ret
        exact ⟨by first | rfl | (simp; done) | (simp [*]; done), by repeat (first | exact Drawn0.refl _ | apply Drawn0.step)⟩

/-! ### fleuronref02_rooted: function 38 -/
def fleuronref02_rooted.f (k : Nat) (a0 : Int) : Option (Int) := (fleuronref02_root.f k a0).bind fun t260 => (if (wrap64 (a0 - (wrap64 (t260 * t260)))) > t260 then (some (wrap64 (t260 + 1))) else (some t260))
theorem fleuronref02_rooted.mono : ∀ a0 k, LeO (fleuronref02_rooted.f k a0) (fleuronref02_rooted.f (k + 1) a0) := by
  intro a0 k
  unfold fleuronref02_rooted.f
  repeat' first
      | (with_reducible exact fleuronref02_root.mono _ _)
      | (with_reducible exact LeO.refl _)
      | (with_reducible exact LeO.none _)
      | (with_reducible refine LeO.ite ?_ ?_)
      | (with_reducible refine LeO.bind ?_ (fun _ => ?_))
      | exact fleuronref02_root.mono _ _
      | exact LeO.none _
      | refine LeO.ite ?_ ?_
      | refine LeO.bind ?_ (fun _ => ?_)
set_option maxHeartbeats 8000000 in
set_option maxRecDepth 100000 in
theorem fleuronref02_rooted.calls (k : Nat) (a0 : Int) (r : Int) (w : World) (h : fleuronref02_rooted.f k a0 = some r) :
    Calls Tryz.prog 38 #[.int .i64 a0] w fun e w' => e = .returned (.int .i64 r) ∧ Drawn0 w w' := by
  have H : ((fleuronref02_root.f k a0).bind fun t260 => (if (wrap64 (a0 - (wrap64 (t260 * t260)))) > t260 then (some (wrap64 (t260 + 1))) else (some t260))) = some r := h
  clear h
  replace H := Option.bind_eq_some_iff.mp H
  obtain ⟨t260, A20, H⟩ := H
  replace H : (if (wrap64 (a0 - (wrap64 (t260 * t260)))) > t260 then (some (wrap64 (t260 + 1))) else (some t260)) = some r := H
  have A2 := Aside0.mk A20
  clear A20
  by_cases c3 : (wrap64 (a0 - (wrap64 (t260 * t260)))) > t260
  · rw [if_pos c3] at H
    have c3b0 : decide (t260 < (wrap64 (a0 - (wrap64 (t260 * t260))))) = true := decide_eq_true c3
    clear c3
    obtain rfl := Option.some.inj H
    go_enter Tryz.func38, Tryz.ntmps38
    go_wp2_with (first | ((with_reducible refine gate_callee (f := 54) rfl ?_); refine goesL_ (some 5) rfl rfl Tryz.func54 (by kernel_rfl) rfl #[.int .i64 a0] rfl (by (try simp only [List.map_toArray, List.map_cons, List.map_nil]); first | done | rfl | (simp only [List.length_drop, List.length_take]; rfl)) ?_; (with_reducible refine (fleuronref02_root.calls k a0 t260 _ A2.out).mono ?_); rintro e w' ⟨rfl, ⟨nd, rfl⟩⟩; refine ⟨_, rfl, ?_⟩))
    go_ret
    exact ⟨by first | rfl | (simp; done) | (simp [*]; done), by repeat (first | exact Drawn0.refl _ | apply Drawn0.step)⟩
  · rw [if_neg c3] at H
    have c3b0 : decide (t260 < (wrap64 (a0 - (wrap64 (t260 * t260))))) = false := decide_eq_false c3
    clear c3
    obtain rfl := Option.some.inj H
    go_enter Tryz.func38, Tryz.ntmps38
    go_wp2_with (first | ((with_reducible refine gate_callee (f := 54) rfl ?_); refine goesL_ (some 5) rfl rfl Tryz.func54 (by kernel_rfl) rfl #[.int .i64 a0] rfl (by (try simp only [List.map_toArray, List.map_cons, List.map_nil]); first | done | rfl | (simp only [List.length_drop, List.length_take]; rfl)) ?_; (with_reducible refine (fleuronref02_root.calls k a0 t260 _ A2.out).mono ?_); rintro e w' ⟨rfl, ⟨nd, rfl⟩⟩; refine ⟨_, rfl, ?_⟩))
    go_ret
    exact ⟨by first | rfl | (simp; done) | (simp [*]; done), by repeat (first | exact Drawn0.refl _ | apply Drawn0.step)⟩

/-! ### fleuronref02_Sqrt: function 15 -/
def fleuronref02_Sqrt.f (k : Nat) (a0 : Int) : Option (Int × Int) := (fleuronref02_is.f k (([a0] : List Int))).bind fun t264 => (if t264 = true then (if a0 < 0 then (some (0, 17)) else ((fleuronref02_rooted.f k (wrap64 (a0 * 65536))).bind fun t265 => ((fleuronref02_told.f k t265).bind fun bt266 => (some (bt266.1, bt266.2))))) else (some (0, 2)))
theorem fleuronref02_Sqrt.mono : ∀ a0 k, LeO (fleuronref02_Sqrt.f k a0) (fleuronref02_Sqrt.f (k + 1) a0) := by
  intro a0 k
  unfold fleuronref02_Sqrt.f
  repeat' first
      | (with_reducible exact fleuronref02_is.mono _ _)
      | (with_reducible exact fleuronref02_rooted.mono _ _)
      | (with_reducible exact fleuronref02_told.mono _ _)
      | (with_reducible exact LeO.refl _)
      | (with_reducible exact LeO.none _)
      | (with_reducible refine LeO.ite ?_ ?_)
      | (with_reducible refine LeO.bind ?_ (fun _ => ?_))
      | exact fleuronref02_is.mono _ _
      | exact fleuronref02_rooted.mono _ _
      | exact fleuronref02_told.mono _ _
      | exact LeO.none _
      | refine LeO.ite ?_ ?_
      | refine LeO.bind ?_ (fun _ => ?_)
set_option maxHeartbeats 8000000 in
set_option maxRecDepth 100000 in
theorem fleuronref02_Sqrt.calls (k : Nat) (a0 : Int) (r1 : Int) (r2 : Int) (w : World) (h : fleuronref02_Sqrt.f k a0 = some (r1, r2)) :
    Calls Tryz.prog 15 #[.int .i64 a0] w fun e w' => e = .returned (.tuple #[.int .i64 r1, .int .i64 r2]) ∧ Below w.heap.size w w' := by
  have HB := Aside0.mk (Below.refl w.heap.size w)
  have H : ((fleuronref02_is.f k (([a0] : List Int))).bind fun t264 => (if t264 = true then (if a0 < 0 then (some (0, 17)) else ((fleuronref02_rooted.f k (wrap64 (a0 * 65536))).bind fun t265 => ((fleuronref02_told.f k t265).bind fun bt266 => (some (bt266.1, bt266.2))))) else (some (0, 2)))) = some (r1, r2) := h
  clear h
  obtain ⟨y261, hy261⟩ : ∃ y_ : List Int, y_ = (([a0] : List Int)) := ⟨_, rfl⟩
  replace H : ((fleuronref02_is.f k y261).bind fun t264 => (if t264 = true then (if a0 < 0 then (some (0, 17)) else ((fleuronref02_rooted.f k (wrap64 (a0 * 65536))).bind fun t265 => ((fleuronref02_told.f k t265).bind fun bt266 => (some (bt266.1, bt266.2))))) else (some (0, 2)))) = some (r1, r2) := by first | (rw [hy261]; with_reducible exact H) | (have H2_ := (Option.bind_some _ _).symm.trans H; rw [hy261]; with_reducible exact H2_) | (have H2_ := (Option.bind_some _ _).symm.trans H; with_reducible exact H2_) | with_reducible exact H | (rw [hy261]; exact H) | exact H
  have Ny261 := Aside0.mk hy261
  clear hy261
  replace H := Option.bind_eq_some_iff.mp H
  obtain ⟨t264, A20, H⟩ := H
  replace H : (if t264 = true then (if a0 < 0 then (some (0, 17)) else ((fleuronref02_rooted.f k (wrap64 (a0 * 65536))).bind fun t265 => ((fleuronref02_told.f k t265).bind fun bt266 => (some (bt266.1, bt266.2))))) else (some (0, 2))) = some (r1, r2) := H
  have A2 := Aside0.mk A20
  clear A20
  by_cases c3 : t264 = true
  · subst c3
    have H1 : (if a0 < 0 then (some (0, 17)) else ((fleuronref02_rooted.f k (wrap64 (a0 * 65536))).bind fun t265 => ((fleuronref02_told.f k t265).bind fun bt266 => (some (bt266.1, bt266.2))))) = some (r1, r2) := by rw [if_pos rfl] at H; exact H
    clear H
    have H := H1
    clear H1
    by_cases c4 : a0 < 0
    · rw [if_pos c4] at H
      have c4b0 : decide (a0 < 0) = true := decide_eq_true c4
      clear c4
      simp only [Option.some.injEq, Prod.mk.injEq] at H
      obtain ⟨rfl, rfl⟩ := H
      go_enter Tryz.func15, Tryz.ntmps15
      go_wp2_with (first | ((with_reducible refine gate_dst (N := 6) rfl ?_); refine Kd.R_lit (Kd.int .i64) _ 3 ?hg (N := 6) ?hd (xs := ([a0] : List Int)) (inner := [.int .i64 a0]) (ok := fun _ => True) (okp := fun _ => True) ?hr ?hp (fun _ hk => hk) trivial (Below.refl _ _) (Nat.le_refl _) (by simp) ?_; (case hd => rfl); (case hg => rfl); (case hr => first | (go_simp; done) | (go_simp; rfl)); (case hp => exact (Reps.one (show Kd.M (Kd.int .i64) _ _ _ a0 [.int .i64 a0] from rfl) (Reps.none _ _))); intro v262 w5 ho6 hb hg_ hnew_; clear hg_ hnew_; (first | rw [← Ny261.out] at ho6 | (simp only [Int.reduceToNat] at ho6; rw [← Ny261.out] at ho6)); have n0_ := Aside0.mk (Kd.R_lower ho6 (below_size (by repeat (first | (with_reducible first | exact HB.out | apply below_alloc | apply pw_below_drewN | apply below_drew1) | exact HB.out)))); have n1_ := Aside0.mk (below_step (by repeat (first | (with_reducible first | exact HB.out | apply below_alloc | apply pw_below_drewN | apply below_drew1) | exact HB.out)) hb); clear HB; have HO263 := n0_; have HB := n1_; clear n0_ n1_; clear hb ho6; obtain ⟨Ao7, co7, eo7⟩ := Kd.R_slice HO263.out; subst eo7) | ((with_reducible refine gate_callee (f := 33) rfl ?_); refine goesL_ (some 7) rfl rfl Tryz.func33 (by kernel_rfl) rfl #[.slice Ao7 y261.length co7] rfl (by (try simp only [List.map_toArray, List.map_cons, List.map_nil]); first | done | rfl | (simp only [List.length_drop, List.length_take]; rfl)) ?_; (with_reducible refine (fleuronref02_is.calls k _ _ y261 true _ ?side1 ?side2 A2.out).mono ?_); (case side1 => repeat (first | exact (Kd.R_reads' HO263.out).2.2 | (with_reducible refine Kd.C_alloc ?_ _) | (with_reducible refine Kd.C_drewN ?_ _) | (with_reducible refine Kd.C_drew ?_))); (case side2 => exact (Kd.R_reads' HO263.out).2.1); rintro e w' ⟨rfl, ⟨nd, rfl⟩⟩; refine ⟨_, rfl, ?_⟩))
      go_ret2
      exact ⟨by first | rfl | (simp [errW_none, errW_some] <;> rfl) | (simp [*, errW_none, errW_some] <;> rfl), by repeat (first | (with_reducible first | exact HB.out | apply below_alloc | apply pw_below_drewN | apply below_drew1) | exact HB.out)⟩
    · rw [if_neg c4] at H
      have c4b0 : decide (a0 < 0) = false := decide_eq_false c4
      clear c4
      replace H := Option.bind_eq_some_iff.mp H
      obtain ⟨t265, A80, H⟩ := H
      replace H : ((fleuronref02_told.f k t265).bind fun bt266 => (some (bt266.1, bt266.2))) = some (r1, r2) := H
      have A8 := Aside0.mk A80
      clear A80
      replace H := Option.bind_eq_some_iff.mp H
      obtain ⟨⟨t266, t267⟩, A90, H⟩ := H
      replace H : (some (t266, t267)) = some (r1, r2) := H
      have A9 := Aside0.mk A90
      clear A90
      simp only [Option.some.injEq, Prod.mk.injEq] at H
      obtain ⟨rfl, rfl⟩ := H
      go_enter Tryz.func15, Tryz.ntmps15
      go_wp2_with (first | ((with_reducible refine gate_dst (N := 6) rfl ?_); refine Kd.R_lit (Kd.int .i64) _ 3 ?hg (N := 6) ?hd (xs := ([a0] : List Int)) (inner := [.int .i64 a0]) (ok := fun _ => True) (okp := fun _ => True) ?hr ?hp (fun _ hk => hk) trivial (Below.refl _ _) (Nat.le_refl _) (by simp) ?_; (case hd => rfl); (case hg => rfl); (case hr => first | (go_simp; done) | (go_simp; rfl)); (case hp => exact (Reps.one (show Kd.M (Kd.int .i64) _ _ _ a0 [.int .i64 a0] from rfl) (Reps.none _ _))); intro v262 w10 ho11 hb hg_ hnew_; clear hg_ hnew_; (first | rw [← Ny261.out] at ho11 | (simp only [Int.reduceToNat] at ho11; rw [← Ny261.out] at ho11)); have n0_ := Aside0.mk (Kd.R_lower ho11 (below_size (by repeat (first | (with_reducible first | exact HB.out | apply below_alloc | apply pw_below_drewN | apply below_drew1) | exact HB.out)))); have n1_ := Aside0.mk (below_step (by repeat (first | (with_reducible first | exact HB.out | apply below_alloc | apply pw_below_drewN | apply below_drew1) | exact HB.out)) hb); clear HB; have HO263 := n0_; have HB := n1_; clear n0_ n1_; clear hb ho11; obtain ⟨Ao12, co12, eo12⟩ := Kd.R_slice HO263.out; subst eo12) | ((with_reducible refine gate_callee (f := 33) rfl ?_); refine goesL_ (some 7) rfl rfl Tryz.func33 (by kernel_rfl) rfl #[.slice Ao12 y261.length co12] rfl (by (try simp only [List.map_toArray, List.map_cons, List.map_nil]); first | done | rfl | (simp only [List.length_drop, List.length_take]; rfl)) ?_; (with_reducible refine (fleuronref02_is.calls k _ _ y261 true _ ?side1 ?side2 A2.out).mono ?_); (case side1 => repeat (first | exact (Kd.R_reads' HO263.out).2.2 | (with_reducible refine Kd.C_alloc ?_ _) | (with_reducible refine Kd.C_drewN ?_ _) | (with_reducible refine Kd.C_drew ?_))); (case side2 => exact (Kd.R_reads' HO263.out).2.1); rintro e w' ⟨rfl, ⟨nd, rfl⟩⟩; refine ⟨_, rfl, ?_⟩) | ((with_reducible refine gate_callee (f := 38) rfl ?_); refine goesL_ (some 14) rfl rfl Tryz.func38 (by kernel_rfl) rfl #[.int .i64 (wrap64 (a0 * 65536))] rfl (by (try simp only [List.map_toArray, List.map_cons, List.map_nil]); first | done | rfl | (simp only [List.length_drop, List.length_take]; rfl)) ?_; (with_reducible refine (fleuronref02_rooted.calls k (wrap64 (a0 * 65536)) t265 _ A8.out).mono ?_); rintro e w' ⟨rfl, ⟨nd, rfl⟩⟩; refine ⟨_, rfl, ?_⟩) | ((with_reducible refine gate_callee (f := 34) rfl ?_); refine goesL_ (some 15) rfl rfl Tryz.func34 (by kernel_rfl) rfl #[.int .i64 t265] rfl (by (try simp only [List.map_toArray, List.map_cons, List.map_nil]); first | done | rfl | (simp only [List.length_drop, List.length_take]; rfl)) ?_; (with_reducible refine (fleuronref02_told.calls k t265 t266 t267 _ A9.out).mono ?_); rintro e w13 ⟨rfl, hb⟩; refine ⟨_, rfl, ?_⟩; have n0_ := Aside0.mk (Kd.R_below (by (with_reducible repeat (first | apply Kd.R_alloc | apply Kd.R_drewN | apply Kd.R_drew)); exact HO263.out) hb); have n1_ := Aside0.mk (below_step (by repeat (first | (with_reducible first | exact HB.out | apply below_alloc | apply pw_below_drewN | apply below_drew1) | exact HB.out)) hb); clear HO263; clear HB; have HO263 := n0_; have HB := n1_; clear n0_ n1_; (try clear hb); (try clear hb2); (try clear hk); (try clear hi)))
      go_ret2
      exact ⟨by first | rfl | (simp [errW_none, errW_some] <;> rfl) | (simp [*, errW_none, errW_some] <;> rfl), by repeat (first | (with_reducible first | exact HB.out | apply below_alloc | apply pw_below_drewN | apply below_drew1) | exact HB.out)⟩
  · replace c3 := Bool.eq_false_iff.mpr c3
    subst c3
    have H1 : (some (0, 2)) = some (r1, r2) := by rw [if_neg (show ¬ (false = true) by decide)] at H; exact H
    clear H
    have H := H1
    clear H1
    simp only [Option.some.injEq, Prod.mk.injEq] at H
    obtain ⟨rfl, rfl⟩ := H
    go_enter Tryz.func15, Tryz.ntmps15
    go_wp2_with (first | ((with_reducible refine gate_dst (N := 6) rfl ?_); refine Kd.R_lit (Kd.int .i64) _ 3 ?hg (N := 6) ?hd (xs := ([a0] : List Int)) (inner := [.int .i64 a0]) (ok := fun _ => True) (okp := fun _ => True) ?hr ?hp (fun _ hk => hk) trivial (Below.refl _ _) (Nat.le_refl _) (by simp) ?_; (case hd => rfl); (case hg => rfl); (case hr => first | (go_simp; done) | (go_simp; rfl)); (case hp => exact (Reps.one (show Kd.M (Kd.int .i64) _ _ _ a0 [.int .i64 a0] from rfl) (Reps.none _ _))); intro v262 w14 ho15 hb hg_ hnew_; clear hg_ hnew_; (first | rw [← Ny261.out] at ho15 | (simp only [Int.reduceToNat] at ho15; rw [← Ny261.out] at ho15)); have n0_ := Aside0.mk (Kd.R_lower ho15 (below_size (by repeat (first | (with_reducible first | exact HB.out | apply below_alloc | apply pw_below_drewN | apply below_drew1) | exact HB.out)))); have n1_ := Aside0.mk (below_step (by repeat (first | (with_reducible first | exact HB.out | apply below_alloc | apply pw_below_drewN | apply below_drew1) | exact HB.out)) hb); clear HB; have HO263 := n0_; have HB := n1_; clear n0_ n1_; clear hb ho15; obtain ⟨Ao16, co16, eo16⟩ := Kd.R_slice HO263.out; subst eo16) | ((with_reducible refine gate_callee (f := 33) rfl ?_); refine goesL_ (some 7) rfl rfl Tryz.func33 (by kernel_rfl) rfl #[.slice Ao16 y261.length co16] rfl (by (try simp only [List.map_toArray, List.map_cons, List.map_nil]); first | done | rfl | (simp only [List.length_drop, List.length_take]; rfl)) ?_; (with_reducible refine (fleuronref02_is.calls k _ _ y261 false _ ?side1 ?side2 A2.out).mono ?_); (case side1 => repeat (first | exact (Kd.R_reads' HO263.out).2.2 | (with_reducible refine Kd.C_alloc ?_ _) | (with_reducible refine Kd.C_drewN ?_ _) | (with_reducible refine Kd.C_drew ?_))); (case side2 => exact (Kd.R_reads' HO263.out).2.1); rintro e w' ⟨rfl, ⟨nd, rfl⟩⟩; refine ⟨_, rfl, ?_⟩))
    go_ret2
    exact ⟨by first | rfl | (simp [errW_none, errW_some] <;> rfl) | (simp [*, errW_none, errW_some] <;> rfl), by repeat (first | (with_reducible first | exact HB.out | apply below_alloc | apply pw_below_drewN | apply below_drew1) | exact HB.out)⟩

/-! ### fleuronref02_Hypot: function 17 -/
def fleuronref02_Hypot.f (k : Nat) (a0 : Int) (a1 : Int) : Option (Int × Int) := (fleuronref02_is.f k (([a0, a1] : List Int))).bind fun t271 => (if t271 = true then ((fleuronref02_rooted.f k (wrap64 ((wrap64 (a0 * a0)) + (wrap64 (a1 * a1))))).bind fun t272 => ((fleuronref02_told.f k t272).bind fun bt273 => (some (bt273.1, bt273.2)))) else (some (0, 2)))
theorem fleuronref02_Hypot.mono : ∀ a0 a1 k, LeO (fleuronref02_Hypot.f k a0 a1) (fleuronref02_Hypot.f (k + 1) a0 a1) := by
  intro a0 a1 k
  unfold fleuronref02_Hypot.f
  repeat' first
      | (with_reducible exact fleuronref02_is.mono _ _)
      | (with_reducible exact fleuronref02_rooted.mono _ _)
      | (with_reducible exact fleuronref02_told.mono _ _)
      | (with_reducible exact LeO.refl _)
      | (with_reducible exact LeO.none _)
      | (with_reducible refine LeO.ite ?_ ?_)
      | (with_reducible refine LeO.bind ?_ (fun _ => ?_))
      | exact fleuronref02_is.mono _ _
      | exact fleuronref02_rooted.mono _ _
      | exact fleuronref02_told.mono _ _
      | exact LeO.none _
      | refine LeO.ite ?_ ?_
      | refine LeO.bind ?_ (fun _ => ?_)
set_option maxHeartbeats 8000000 in
set_option maxRecDepth 100000 in
theorem fleuronref02_Hypot.calls (k : Nat) (a0 : Int) (a1 : Int) (r1 : Int) (r2 : Int) (w : World) (h : fleuronref02_Hypot.f k a0 a1 = some (r1, r2)) :
    Calls Tryz.prog 17 #[.int .i64 a0, .int .i64 a1] w fun e w' => e = .returned (.tuple #[.int .i64 r1, .int .i64 r2]) ∧ Below w.heap.size w w' := by
  have HB := Aside0.mk (Below.refl w.heap.size w)
  have H : ((fleuronref02_is.f k (([a0, a1] : List Int))).bind fun t271 => (if t271 = true then ((fleuronref02_rooted.f k (wrap64 ((wrap64 (a0 * a0)) + (wrap64 (a1 * a1))))).bind fun t272 => ((fleuronref02_told.f k t272).bind fun bt273 => (some (bt273.1, bt273.2)))) else (some (0, 2)))) = some (r1, r2) := h
  clear h
  obtain ⟨y268, hy268⟩ : ∃ y_ : List Int, y_ = (([a0, a1] : List Int)) := ⟨_, rfl⟩
  replace H : ((fleuronref02_is.f k y268).bind fun t271 => (if t271 = true then ((fleuronref02_rooted.f k (wrap64 ((wrap64 (a0 * a0)) + (wrap64 (a1 * a1))))).bind fun t272 => ((fleuronref02_told.f k t272).bind fun bt273 => (some (bt273.1, bt273.2)))) else (some (0, 2)))) = some (r1, r2) := by first | (rw [hy268]; with_reducible exact H) | (have H2_ := (Option.bind_some _ _).symm.trans H; rw [hy268]; with_reducible exact H2_) | (have H2_ := (Option.bind_some _ _).symm.trans H; with_reducible exact H2_) | with_reducible exact H | (rw [hy268]; exact H) | exact H
  have Ny268 := Aside0.mk hy268
  clear hy268
  replace H := Option.bind_eq_some_iff.mp H
  obtain ⟨t271, A30, H⟩ := H
  replace H : (if t271 = true then ((fleuronref02_rooted.f k (wrap64 ((wrap64 (a0 * a0)) + (wrap64 (a1 * a1))))).bind fun t272 => ((fleuronref02_told.f k t272).bind fun bt273 => (some (bt273.1, bt273.2)))) else (some (0, 2))) = some (r1, r2) := H
  have A3 := Aside0.mk A30
  clear A30
  by_cases c4 : t271 = true
  · subst c4
    have H1 : ((fleuronref02_rooted.f k (wrap64 ((wrap64 (a0 * a0)) + (wrap64 (a1 * a1))))).bind fun t272 => ((fleuronref02_told.f k t272).bind fun bt273 => (some (bt273.1, bt273.2)))) = some (r1, r2) := by rw [if_pos rfl] at H; exact H
    clear H
    have H := H1
    clear H1
    replace H := Option.bind_eq_some_iff.mp H
    obtain ⟨t272, A50, H⟩ := H
    replace H : ((fleuronref02_told.f k t272).bind fun bt273 => (some (bt273.1, bt273.2))) = some (r1, r2) := H
    have A5 := Aside0.mk A50
    clear A50
    replace H := Option.bind_eq_some_iff.mp H
    obtain ⟨⟨t273, t274⟩, A60, H⟩ := H
    replace H : (some (t273, t274)) = some (r1, r2) := H
    have A6 := Aside0.mk A60
    clear A60
    simp only [Option.some.injEq, Prod.mk.injEq] at H
    obtain ⟨rfl, rfl⟩ := H
    go_enter Tryz.func17, Tryz.ntmps17
    go_wp2_with (first | ((with_reducible refine gate_dst (N := 8) rfl ?_); refine Kd.R_lit (Kd.int .i64) _ 3 ?hg (N := 8) ?hd (xs := ([a0, a1] : List Int)) (inner := [.int .i64 a0, .int .i64 a1]) (ok := fun _ => True) (okp := fun _ => True) ?hr ?hp (fun _ hk => hk) trivial (Below.refl _ _) (Nat.le_refl _) (by simp) ?_; (case hd => rfl); (case hg => rfl); (case hr => first | (go_simp; done) | (go_simp; rfl)); (case hp => exact (Reps.one (show Kd.M (Kd.int .i64) _ _ _ a0 [.int .i64 a0] from rfl) (Reps.one (show Kd.M (Kd.int .i64) _ _ _ a1 [.int .i64 a1] from rfl) (Reps.none _ _)))); intro v269 w7 ho8 hb hg_ hnew_; clear hg_ hnew_; (first | rw [← Ny268.out] at ho8 | (simp only [Int.reduceToNat] at ho8; rw [← Ny268.out] at ho8)); have n0_ := Aside0.mk (Kd.R_lower ho8 (below_size (by repeat (first | (with_reducible first | exact HB.out | apply below_alloc | apply pw_below_drewN | apply below_drew1) | exact HB.out)))); have n1_ := Aside0.mk (below_step (by repeat (first | (with_reducible first | exact HB.out | apply below_alloc | apply pw_below_drewN | apply below_drew1) | exact HB.out)) hb); clear HB; have HO270 := n0_; have HB := n1_; clear n0_ n1_; clear hb ho8; obtain ⟨Ao9, co9, eo9⟩ := Kd.R_slice HO270.out; subst eo9) | ((with_reducible refine gate_callee (f := 33) rfl ?_); refine goesL_ (some 9) rfl rfl Tryz.func33 (by kernel_rfl) rfl #[.slice Ao9 y268.length co9] rfl (by (try simp only [List.map_toArray, List.map_cons, List.map_nil]); first | done | rfl | (simp only [List.length_drop, List.length_take]; rfl)) ?_; (with_reducible refine (fleuronref02_is.calls k _ _ y268 true _ ?side1 ?side2 A3.out).mono ?_); (case side1 => repeat (first | exact (Kd.R_reads' HO270.out).2.2 | (with_reducible refine Kd.C_alloc ?_ _) | (with_reducible refine Kd.C_drewN ?_ _) | (with_reducible refine Kd.C_drew ?_))); (case side2 => exact (Kd.R_reads' HO270.out).2.1); rintro e w' ⟨rfl, ⟨nd, rfl⟩⟩; refine ⟨_, rfl, ?_⟩) | ((with_reducible refine gate_callee (f := 38) rfl ?_); refine goesL_ (some 18) rfl rfl Tryz.func38 (by kernel_rfl) rfl #[.int .i64 (wrap64 ((wrap64 (a0 * a0)) + (wrap64 (a1 * a1))))] rfl (by (try simp only [List.map_toArray, List.map_cons, List.map_nil]); first | done | rfl | (simp only [List.length_drop, List.length_take]; rfl)) ?_; (with_reducible refine (fleuronref02_rooted.calls k (wrap64 ((wrap64 (a0 * a0)) + (wrap64 (a1 * a1)))) t272 _ A5.out).mono ?_); rintro e w' ⟨rfl, ⟨nd, rfl⟩⟩; refine ⟨_, rfl, ?_⟩) | ((with_reducible refine gate_callee (f := 34) rfl ?_); refine goesL_ (some 19) rfl rfl Tryz.func34 (by kernel_rfl) rfl #[.int .i64 t272] rfl (by (try simp only [List.map_toArray, List.map_cons, List.map_nil]); first | done | rfl | (simp only [List.length_drop, List.length_take]; rfl)) ?_; (with_reducible refine (fleuronref02_told.calls k t272 t273 t274 _ A6.out).mono ?_); rintro e w10 ⟨rfl, hb⟩; refine ⟨_, rfl, ?_⟩; have n0_ := Aside0.mk (Kd.R_below (by (with_reducible repeat (first | apply Kd.R_alloc | apply Kd.R_drewN | apply Kd.R_drew)); exact HO270.out) hb); have n1_ := Aside0.mk (below_step (by repeat (first | (with_reducible first | exact HB.out | apply below_alloc | apply pw_below_drewN | apply below_drew1) | exact HB.out)) hb); clear HO270; clear HB; have HO270 := n0_; have HB := n1_; clear n0_ n1_; (try clear hb); (try clear hb2); (try clear hk); (try clear hi)))
    go_ret2
    exact ⟨by first | rfl | (simp [errW_none, errW_some] <;> rfl) | (simp [*, errW_none, errW_some] <;> rfl), by repeat (first | (with_reducible first | exact HB.out | apply below_alloc | apply pw_below_drewN | apply below_drew1) | exact HB.out)⟩
  · replace c4 := Bool.eq_false_iff.mpr c4
    subst c4
    have H1 : (some (0, 2)) = some (r1, r2) := by rw [if_neg (show ¬ (false = true) by decide)] at H; exact H
    clear H
    have H := H1
    clear H1
    simp only [Option.some.injEq, Prod.mk.injEq] at H
    obtain ⟨rfl, rfl⟩ := H
    go_enter Tryz.func17, Tryz.ntmps17
    go_wp2_with (first | ((with_reducible refine gate_dst (N := 8) rfl ?_); refine Kd.R_lit (Kd.int .i64) _ 3 ?hg (N := 8) ?hd (xs := ([a0, a1] : List Int)) (inner := [.int .i64 a0, .int .i64 a1]) (ok := fun _ => True) (okp := fun _ => True) ?hr ?hp (fun _ hk => hk) trivial (Below.refl _ _) (Nat.le_refl _) (by simp) ?_; (case hd => rfl); (case hg => rfl); (case hr => first | (go_simp; done) | (go_simp; rfl)); (case hp => exact (Reps.one (show Kd.M (Kd.int .i64) _ _ _ a0 [.int .i64 a0] from rfl) (Reps.one (show Kd.M (Kd.int .i64) _ _ _ a1 [.int .i64 a1] from rfl) (Reps.none _ _)))); intro v269 w11 ho12 hb hg_ hnew_; clear hg_ hnew_; (first | rw [← Ny268.out] at ho12 | (simp only [Int.reduceToNat] at ho12; rw [← Ny268.out] at ho12)); have n0_ := Aside0.mk (Kd.R_lower ho12 (below_size (by repeat (first | (with_reducible first | exact HB.out | apply below_alloc | apply pw_below_drewN | apply below_drew1) | exact HB.out)))); have n1_ := Aside0.mk (below_step (by repeat (first | (with_reducible first | exact HB.out | apply below_alloc | apply pw_below_drewN | apply below_drew1) | exact HB.out)) hb); clear HB; have HO270 := n0_; have HB := n1_; clear n0_ n1_; clear hb ho12; obtain ⟨Ao13, co13, eo13⟩ := Kd.R_slice HO270.out; subst eo13) | ((with_reducible refine gate_callee (f := 33) rfl ?_); refine goesL_ (some 9) rfl rfl Tryz.func33 (by kernel_rfl) rfl #[.slice Ao13 y268.length co13] rfl (by (try simp only [List.map_toArray, List.map_cons, List.map_nil]); first | done | rfl | (simp only [List.length_drop, List.length_take]; rfl)) ?_; (with_reducible refine (fleuronref02_is.calls k _ _ y268 false _ ?side1 ?side2 A3.out).mono ?_); (case side1 => repeat (first | exact (Kd.R_reads' HO270.out).2.2 | (with_reducible refine Kd.C_alloc ?_ _) | (with_reducible refine Kd.C_drewN ?_ _) | (with_reducible refine Kd.C_drew ?_))); (case side2 => exact (Kd.R_reads' HO270.out).2.1); rintro e w' ⟨rfl, ⟨nd, rfl⟩⟩; refine ⟨_, rfl, ?_⟩))
    go_ret2
    exact ⟨by first | rfl | (simp [errW_none, errW_some] <;> rfl) | (simp [*, errW_none, errW_some] <;> rfl), by repeat (first | (with_reducible first | exact HB.out | apply below_alloc | apply pw_below_drewN | apply below_drew1) | exact HB.out)⟩

/-! ### fleuronlaw02_FixRoots: function 4 -/
def fleuronlaw02_FixRoots.f (k : Nat) (a0 : Int) (a1 : Int) : Option (Bool) := (fix_Sqrt.f k a0).bind fun bt275 => ((fleuronref02_Sqrt.f k a0).bind fun bt277 => ((fix_Hypot.f k a0 a1).bind fun bt279 => ((fleuronref02_Hypot.f k a0 a1).bind fun bt281 => (if bt275.1 = bt277.1 then (if bt275.2 = bt277.2 then (if bt279.1 = bt281.1 then (if bt279.2 = bt281.2 then ((fleuronlaw02_awake.f k).bind fun t283 => (some t283)) else (some false)) else (some false)) else (some false)) else (some false)))))
theorem fleuronlaw02_FixRoots.mono : ∀ a0 a1 k, LeO (fleuronlaw02_FixRoots.f k a0 a1) (fleuronlaw02_FixRoots.f (k + 1) a0 a1) := by
  intro a0 a1 k
  unfold fleuronlaw02_FixRoots.f
  repeat' first
      | (with_reducible exact fix_Hypot.mono _ _ _)
      | (with_reducible exact fix_Sqrt.mono _ _)
      | (with_reducible exact fleuronlaw02_awake.mono _)
      | (with_reducible exact fleuronref02_Hypot.mono _ _ _)
      | (with_reducible exact fleuronref02_Sqrt.mono _ _)
      | (with_reducible exact LeO.refl _)
      | (with_reducible exact LeO.none _)
      | (with_reducible refine LeO.ite ?_ ?_)
      | (with_reducible refine LeO.bind ?_ (fun _ => ?_))
      | exact fix_Hypot.mono _ _ _
      | exact fix_Sqrt.mono _ _
      | exact fleuronlaw02_awake.mono _
      | exact fleuronref02_Hypot.mono _ _ _
      | exact fleuronref02_Sqrt.mono _ _
      | exact LeO.none _
      | refine LeO.ite ?_ ?_
      | refine LeO.bind ?_ (fun _ => ?_)
set_option maxHeartbeats 8000000 in
set_option maxRecDepth 100000 in
theorem fleuronlaw02_FixRoots.callsT (k : Nat) (a0 : Int) (a1 : Int) (w : World) (ht_ : LaidOK w) (h : fleuronlaw02_FixRoots.f k a0 a1 = some true) :
    Calls Tryz.prog 4 #[.int .i64 a0, .int .i64 a1] w fun e w' => e = .returned (.bool true) ∧ Below w.heap.size w w' := by
  have HB := Aside0.mk (Below.refl w.heap.size w)
  have HT_ := Aside0.mk ht_
  clear ht_
  have H : ((fix_Sqrt.f k a0).bind fun bt275 => ((fleuronref02_Sqrt.f k a0).bind fun bt277 => ((fix_Hypot.f k a0 a1).bind fun bt279 => ((fleuronref02_Hypot.f k a0 a1).bind fun bt281 => (if bt275.1 = bt277.1 then (if bt275.2 = bt277.2 then (if bt279.1 = bt281.1 then (if bt279.2 = bt281.2 then ((fleuronlaw02_awake.f k).bind fun t283 => (some t283)) else (some false)) else (some false)) else (some false)) else (some false)))))) = some true := h
  clear h
  replace H := Option.bind_eq_some_iff.mp H
  obtain ⟨⟨t275, t276⟩, A30, H⟩ := H
  replace H : ((fleuronref02_Sqrt.f k a0).bind fun bt277 => ((fix_Hypot.f k a0 a1).bind fun bt279 => ((fleuronref02_Hypot.f k a0 a1).bind fun bt281 => (if t275 = bt277.1 then (if t276 = bt277.2 then (if bt279.1 = bt281.1 then (if bt279.2 = bt281.2 then ((fleuronlaw02_awake.f k).bind fun t283 => (some t283)) else (some false)) else (some false)) else (some false)) else (some false))))) = some true := H
  have A3 := Aside0.mk A30
  clear A30
  replace H := Option.bind_eq_some_iff.mp H
  obtain ⟨⟨t277, t278⟩, A40, H⟩ := H
  replace H : ((fix_Hypot.f k a0 a1).bind fun bt279 => ((fleuronref02_Hypot.f k a0 a1).bind fun bt281 => (if t275 = t277 then (if t276 = t278 then (if bt279.1 = bt281.1 then (if bt279.2 = bt281.2 then ((fleuronlaw02_awake.f k).bind fun t283 => (some t283)) else (some false)) else (some false)) else (some false)) else (some false)))) = some true := H
  have A4 := Aside0.mk A40
  clear A40
  replace H := Option.bind_eq_some_iff.mp H
  obtain ⟨⟨t279, t280⟩, A50, H⟩ := H
  replace H : ((fleuronref02_Hypot.f k a0 a1).bind fun bt281 => (if t275 = t277 then (if t276 = t278 then (if t279 = bt281.1 then (if t280 = bt281.2 then ((fleuronlaw02_awake.f k).bind fun t283 => (some t283)) else (some false)) else (some false)) else (some false)) else (some false))) = some true := H
  have A5 := Aside0.mk A50
  clear A50
  replace H := Option.bind_eq_some_iff.mp H
  obtain ⟨⟨t281, t282⟩, A60, H⟩ := H
  replace H : (if t275 = t277 then (if t276 = t278 then (if t279 = t281 then (if t280 = t282 then ((fleuronlaw02_awake.f k).bind fun t283 => (some t283)) else (some false)) else (some false)) else (some false)) else (some false)) = some true := H
  have A6 := Aside0.mk A60
  clear A60
  by_cases c7 : t275 = t277
  · rw [if_pos c7] at H
    have c7b0 : (t275 == t277) = true := beq_iff_eq.mpr c7
    have c7b1 : (t275 != t277) = false := bne_eq_false_iff_eq.mpr c7
    clear c7
    by_cases c8 : t276 = t278
    · rw [if_pos c8] at H
      have c8b0 : (t276 == t278) = true := beq_iff_eq.mpr c8
      have c8b1 : (t276 != t278) = false := bne_eq_false_iff_eq.mpr c8
      clear c8
      by_cases c9 : t279 = t281
      · rw [if_pos c9] at H
        have c9b0 : (t279 == t281) = true := beq_iff_eq.mpr c9
        have c9b1 : (t279 != t281) = false := bne_eq_false_iff_eq.mpr c9
        clear c9
        by_cases c10 : t280 = t282
        · rw [if_pos c10] at H
          have c10b0 : (t280 == t282) = true := beq_iff_eq.mpr c10
          have c10b1 : (t280 != t282) = false := bne_eq_false_iff_eq.mpr c10
          clear c10
          replace H := Option.bind_eq_some_iff.mp H
          obtain ⟨t283, A110, H⟩ := H
          replace H : (some t283) = some true := H
          have A11 := Aside0.mk A110
          clear A110
          have hr_ := Option.some.inj H
          clear H
          go_enter Tryz.func4, Tryz.ntmps4
          go_wp2_with (first | ((with_reducible refine gate_callee (f := 14) rfl ?_); refine goesL_ (some 15) rfl rfl Tryz.func14 (by kernel_rfl) rfl #[.int .i64 a0] rfl (by (try simp only [List.map_toArray, List.map_cons, List.map_nil]); first | done | rfl | (simp only [List.length_drop, List.length_take]; rfl)) ?_; (with_reducible refine (fix_Sqrt.calls k a0 t275 t276 _ A3.out).mono ?_); rintro e w12 ⟨rfl, hb⟩; refine ⟨_, rfl, ?_⟩; have n0_ := Aside0.mk (below_step (by repeat (first | (with_reducible first | exact HB.out | apply below_alloc | apply pw_below_drewN | apply below_drew1) | exact HB.out)) hb); clear HB; have HB := n0_; clear n0_; (try clear hb); (try clear hb2); (try clear hk); (try clear hi)) | ((with_reducible refine gate_callee (f := 15) rfl ?_); refine goesL_ (some 20) rfl rfl Tryz.func15 (by kernel_rfl) rfl #[.int .i64 a0] rfl (by (try simp only [List.map_toArray, List.map_cons, List.map_nil]); first | done | rfl | (simp only [List.length_drop, List.length_take]; rfl)) ?_; (with_reducible refine (fleuronref02_Sqrt.calls k a0 t277 t278 _ A4.out).mono ?_); rintro e w13 ⟨rfl, hb⟩; refine ⟨_, rfl, ?_⟩; have n0_ := Aside0.mk (below_step (by repeat (first | (with_reducible first | exact HB.out | apply below_alloc | apply pw_below_drewN | apply below_drew1) | exact HB.out)) hb); clear HB; have HB := n0_; clear n0_; (try clear hb); (try clear hb2); (try clear hk); (try clear hi)) | ((with_reducible refine gate_callee (f := 16) rfl ?_); refine goesL_ (some 26) rfl rfl Tryz.func16 (by kernel_rfl) rfl #[.int .i64 a0, .int .i64 a1] rfl (by (try simp only [List.map_toArray, List.map_cons, List.map_nil]); first | done | rfl | (simp only [List.length_drop, List.length_take]; rfl)) ?_; (with_reducible refine (fix_Hypot.calls k a0 a1 t279 t280 _ A5.out).mono ?_); rintro e w14 ⟨rfl, hb⟩; refine ⟨_, rfl, ?_⟩; have n0_ := Aside0.mk (below_step (by repeat (first | (with_reducible first | exact HB.out | apply below_alloc | apply pw_below_drewN | apply below_drew1) | exact HB.out)) hb); clear HB; have HB := n0_; clear n0_; (try clear hb); (try clear hb2); (try clear hk); (try clear hi)) | ((with_reducible refine gate_callee (f := 17) rfl ?_); refine goesL_ (some 32) rfl rfl Tryz.func17 (by kernel_rfl) rfl #[.int .i64 a0, .int .i64 a1] rfl (by (try simp only [List.map_toArray, List.map_cons, List.map_nil]); first | done | rfl | (simp only [List.length_drop, List.length_take]; rfl)) ?_; (with_reducible refine (fleuronref02_Hypot.calls k a0 a1 t281 t282 _ A6.out).mono ?_); rintro e w15 ⟨rfl, hb⟩; refine ⟨_, rfl, ?_⟩; have n0_ := Aside0.mk (below_step (by repeat (first | (with_reducible first | exact HB.out | apply below_alloc | apply pw_below_drewN | apply below_drew1) | exact HB.out)) hb); clear HB; have HB := n0_; clear n0_; (try clear hb); (try clear hb2); (try clear hk); (try clear hi)) | (go_at_call 13; (with_reducible refine (fleuronlaw02_awake.callsT k   _ ?side1 (Aside0.mk (by have z_ := A11.out; rw [show t283 = true by assumption] at z_; exact z_)).out).mono ?_); (case side1 => exact LaidOK.below HT_.out (by repeat (first | (with_reducible first | exact HB.out | apply below_alloc | apply pw_below_drewN | apply below_drew1) | exact HB.out))); rintro e w16 ⟨rfl, hb⟩; have n0_ := Aside0.mk (below_step (by repeat (first | (with_reducible first | exact HB.out | apply below_alloc | apply pw_below_drewN | apply below_drew1) | exact HB.out)) hb); clear HB; have HB := n0_; clear n0_; (try clear hb); (try clear hb2); (try clear hk); (try clear hi)))
          go_ret
          exact ⟨by first | rfl | (simp [errW_none, errW_some] <;> rfl) | (simp [*, errW_none, errW_some] <;> rfl), by repeat (first | (with_reducible first | exact HB.out | apply below_alloc | apply pw_below_drewN | apply below_drew1) | exact HB.out)⟩
        · rw [if_neg c10] at H
          have c10b0 : (t280 == t282) = false := beq_eq_false_iff_ne.mpr c10
          have c10b1 : (t280 != t282) = true := bne_iff_ne.mpr c10
          exact absurd H (by simp)
      · rw [if_neg c9] at H
        have c9b0 : (t279 == t281) = false := beq_eq_false_iff_ne.mpr c9
        have c9b1 : (t279 != t281) = true := bne_iff_ne.mpr c9
        exact absurd H (by simp)
    · rw [if_neg c8] at H
      have c8b0 : (t276 == t278) = false := beq_eq_false_iff_ne.mpr c8
      have c8b1 : (t276 != t278) = true := bne_iff_ne.mpr c8
      exact absurd H (by simp)
  · rw [if_neg c7] at H
    have c7b0 : (t275 == t277) = false := beq_eq_false_iff_ne.mpr c7
    have c7b1 : (t275 != t277) = true := bne_iff_ne.mpr c7
    exact absurd H (by simp)

/-- THE ONE PURE STATEMENT of fleuronlaw02_FixRoots: yours. -/
def fleuronlaw02_FixRoots.Pure : Prop := ∀ (a0 : Int) (a1 : Int), (Lit.int .i64 a0).wf = true → (Lit.int .i64 a1).wf = true → ∃ k, fleuronlaw02_FixRoots.f k a0 a1 = some true
theorem fleuronlaw02_FixRoots.walk (P : fleuronlaw02_FixRoots.Pure) (a0 : Int) (a1 : Int) (w : World) (w0 : (Lit.int .i64 a0).wf = true) (w1 : (Lit.int .i64 a1).wf = true) (ht_ : LaidOK w) :
    Calls Tryz.prog 4 #[.int .i64 a0, .int .i64 a1] w fun e w' => e = .returned (.bool true) ∧ Below w.heap.size w w' := by
  obtain ⟨k, h⟩ := P a0 a1 w0 w1
  refine (fleuronlaw02_FixRoots.callsT k a0 a1 w ht_ h).mono ?_
  rintro e w' ⟨rfl, hd⟩
  exact ⟨rfl, hd⟩

/-! ### fleuronref02_angle: function 40 -/
def fleuronref02_angle.f (a0 : Int) : Option (Bool) := if a0 ≥ (-1099511627776) then (some (decide (a0 ≤ 1099511627776))) else (some false)
set_option maxHeartbeats 8000000 in
set_option maxRecDepth 100000 in
theorem fleuronref02_angle.calls (a0 : Int) (r : Bool) (w : World) (h : fleuronref02_angle.f a0 = some r) :
    Calls Tryz.prog 40 #[.int .i64 a0] w fun e w' => e = .returned (.bool r) ∧ Drawn0 w w' := by
  have H : (if a0 ≥ (-1099511627776) then (some (decide (a0 ≤ 1099511627776))) else (some false)) = some r := h
  clear h
  by_cases c2 : a0 ≥ (-1099511627776)
  · rw [if_pos c2] at H
    have c2b0 : decide ((-1099511627776) ≤ a0) = true := decide_eq_true c2
    clear c2
    obtain rfl := Option.some.inj H
    go_enter Tryz.func40, Tryz.ntmps40
    go_wp2
    go_ret
    exact ⟨by first | rfl | (simp; done) | (simp [*]; done), by repeat (first | exact Drawn0.refl _ | apply Drawn0.step)⟩
  · rw [if_neg c2] at H
    have c2b0 : decide ((-1099511627776) ≤ a0) = false := decide_eq_false c2
    clear c2
    obtain rfl := Option.some.inj H
    go_enter Tryz.func40, Tryz.ntmps40
    go_wp2
    go_ret
    exact ⟨by first | rfl | (simp; done) | (simp [*]; done), by repeat (first | exact Drawn0.refl _ | apply Drawn0.step)⟩

end Go.Proofs.YtjaifahodfljkaaGreatDoor.Z
