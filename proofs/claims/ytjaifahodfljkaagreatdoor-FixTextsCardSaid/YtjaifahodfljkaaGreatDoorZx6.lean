/- Laid by program (this session's, over the kit's print): functions of this seat as plain Lean functions, each with its contract. -/
import Derived.Test.YtjaifahodfljkaaGreatDoorZx0
import Derived.Test.YtjaifahodfljkaaGreatDoorZx1
import Derived.Test.YtjaifahodfljkaaGreatDoorZx2
import Derived.Test.YtjaifahodfljkaaGreatDoorZx3
import Derived.Test.YtjaifahodfljkaaGreatDoorZx5
namespace Go.Proofs.YtjaifahodfljkaaGreatDoor.Z
open Go.RowKit Go.Proofs.YtjaifahodfljkaaGreatDoorW.PrintWords Go.Proofs.YtjaifahodfljkaaGreatDoorW.PrintLast Go.Proofs.YtjaifahodfljkaaGreatDoorW.PrintMore
attribute [local go_sem] max2_int min2_int max_two min_two max_three min_three max_four min_four   -- for this text's walks alone
set_option linter.unusedVariables false
set_option linter.unusedSimpArgs false

/-! ### fleuronref02_series: function 69 -/
def fleuronref02_series.l0 : Nat → Int → Int → Int → Int → Int → Int → Option (Int)
  | 0, _, _, _, _, _, _ => none
  | k + 1, x0, x1, x2, x7, x8, x9 => if x0 = 0 then (some ((wrap64 (x7 + 2)) / 4)) else (if (wrap64 ((wrap64 ((wrap64 ((wrap64 (2 * x9)) + x2)) - 1)) * (wrap64 ((wrap64 (2 * x9)) + x2)))) = 0 then (none) else (fleuronref02_series.l0 k (wrap64 (Int.tdiv ((wrap64 (((wrap64 (x0 * x1)) / 1073741824) * x1)) / 1073741824) (wrap64 ((wrap64 ((wrap64 ((wrap64 (2 * x9)) + x2)) - 1)) * (wrap64 ((wrap64 (2 * x9)) + x2)))))) x1 x2 (wrap64 (x7 + (wrap64 (x8 * x0)))) (wrap64 (-x8)) (wrap64 (x9 + 1))))
def fleuronref02_series.f (k : Nat) (a0 : Int) (a1 : Int) (a2 : Int) : Option (Int) := fleuronref02_series.l0 k a0 a1 a2 0 1 1
theorem fleuronref02_series.mono_l : ∀ k, (∀ y0 y1 y2 y3 y4 y5, LeO (fleuronref02_series.l0 k y0 y1 y2 y3 y4 y5) (fleuronref02_series.l0 (k + 1) y0 y1 y2 y3 y4 y5))
  | 0 => fun _ _ _ _ _ _ r h => by simp [fleuronref02_series.l0] at h
  | k + 1 => by
    have ih0 := fleuronref02_series.mono_l k
    · intro y0 y1 y2 y3 y4 y5
      unfold fleuronref02_series.l0
      repeat' first
      | (with_reducible exact ih0 _ _ _ _ _ _)
      | (with_reducible exact LeO.refl _)
      | (with_reducible exact LeO.none _)
      | (with_reducible refine LeO.ite ?_ ?_)
      | (with_reducible refine LeO.bind ?_ (fun _ => ?_))
      | exact ih0 _ _ _ _ _ _
      | exact LeO.none _
      | refine LeO.ite ?_ ?_
      | refine LeO.bind ?_ (fun _ => ?_)
theorem fleuronref02_series.mono : ∀ a0 a1 a2 k, LeO (fleuronref02_series.f k a0 a1 a2) (fleuronref02_series.f (k + 1) a0 a1 a2) := by
  intro a0 a1 a2 k
  have ih0 := fleuronref02_series.mono_l k
  unfold fleuronref02_series.f
  repeat' first
      | (with_reducible exact ih0 _ _ _ _ _ _)
      | (with_reducible exact LeO.refl _)
      | (with_reducible exact LeO.none _)
      | (with_reducible refine LeO.ite ?_ ?_)
      | (with_reducible refine LeO.bind ?_ (fun _ => ?_))
      | exact ih0 _ _ _ _ _ _
      | exact LeO.none _
      | refine LeO.ite ?_ ?_
      | refine LeO.bind ?_ (fun _ => ?_)
set_option maxHeartbeats 8000000 in
set_option maxRecDepth 100000 in
theorem fleuronref02_series.calls (k : Nat) (a0 : Int) (a1 : Int) (a2 : Int) (r : Int) (w : World) (h : fleuronref02_series.f k a0 a1 a2 = some r) :
    Calls Tryz.prog 69 #[.int .i64 a0, .int .i64 a1, .int .i64 a2] w fun e w' => e = .returned (.int .i64 r) ∧ Drawn0 w w' := by
  have H : (fleuronref02_series.l0 k a0 a1 a2 0 1 1) = some r := h
  clear h
  have H' := Aside0.mk H
  clear H
  go_enter Tryz.func69, Tryz.ntmps69
  go_wp2
  go_loopg [0, 7, 8, 9] k (fun kq v0 v7 v8 v9 w' => ∃ (x0_1 : Int) (x7_1 : Int) (x8_1 : Int) (x9_1 : Int), v0 = .int .i64 x0_1 ∧ v7 = .int .i64 x7_1 ∧ v8 = .int .i64 x8_1 ∧ v9 = .int .i64 x9_1 ∧ Aside0 (fleuronref02_series.l0 kq x0_1 a1 a2 x7_1 x8_1 x9_1 = some r) ∧ Aside0 (kq ≤ k) ∧ Drawn0 w w')
  case atStart => exact ⟨(a0), (0), (1), (1), (by first | rfl | (simp; done) | (simp [*]; done)), (by first | rfl | (simp; done) | (simp [*]; done)), (by first | rfl | (simp; done) | (simp [*]; done)), (by first | rfl | (simp; done) | (simp [*]; done)), H', ⟨Nat.le_refl _⟩, by repeat (first | exact Drawn0.refl _ | apply Drawn0.step)⟩
  case round =>
    clear H'
    try clear p2
    obtain ⟨x0_1, x7_1, x8_1, x9_1, rfl, rfl, rfl, rfl, HA, HK1, ⟨m1, rfl⟩⟩ := hrel
    cases gk with
    | zero => exact absurd HA.out (by simp [fleuronref02_series.l0])
    | succ k1 =>
      have H := HA.out
      clear HA
      simp only [fleuronref02_series.l0] at H
      by_cases c4 : x0_1 = 0
      · rw [if_pos c4] at H
        have c4b0 : (x0_1 == 0) = true := beq_iff_eq.mpr c4
        have c4b1 : (x0_1 != 0) = false := bne_eq_false_iff_eq.mpr c4
        clear c4
        obtain rfl := Option.some.inj H
        go_wp2
        go_ret
        exact ⟨by first | rfl | (simp; done) | (simp [*]; done), by repeat (first | exact Drawn0.refl _ | apply Drawn0.step)⟩
      · rw [if_neg c4] at H
        have c4b0 : (x0_1 == 0) = false := beq_eq_false_iff_ne.mpr c4
        have c4b1 : (x0_1 != 0) = true := bne_iff_ne.mpr c4
        by_cases c5 : (wrap64 ((wrap64 ((wrap64 ((wrap64 (2 * x9_1)) + a2)) - 1)) * (wrap64 ((wrap64 (2 * x9_1)) + a2)))) = 0
        · rw [if_pos c5] at H
          exact absurd H (by simp)
        · rw [if_neg c5] at H
          have c5b0 : ((wrap64 ((wrap64 ((wrap64 ((wrap64 (2 * x9_1)) + a2)) - 1)) * (wrap64 ((wrap64 (2 * x9_1)) + a2)))) == 0) = false := beq_eq_false_iff_ne.mpr c5
          have c5b1 : ((wrap64 ((wrap64 ((wrap64 ((wrap64 (2 * x9_1)) + a2)) - 1)) * (wrap64 ((wrap64 (2 * x9_1)) + a2)))) != 0) = true := bne_iff_ne.mpr c5
          have H' := Aside0.mk H
          clear H
          go_wp2
          go_roundg k1
          case measure => have := HK1.out; omega
          case rel => exact ⟨(wrap64 (Int.tdiv ((wrap64 (((wrap64 (x0_1 * a1)) / 1073741824) * a1)) / 1073741824) (wrap64 ((wrap64 ((wrap64 ((wrap64 (2 * x9_1)) + a2)) - 1)) * (wrap64 ((wrap64 (2 * x9_1)) + a2)))))), (wrap64 (x7_1 + (wrap64 (x8_1 * x0_1)))), (wrap64 (-x8_1)), (wrap64 (x9_1 + 1)), (by first | rfl | (simp; done) | (simp [*]; done)), (by first | rfl | (simp; done) | (simp [*]; done)), (by first | rfl | (simp; done) | (simp [*]; done)), (by first | rfl | (simp; done) | (simp [*]; done)), H', ⟨by have := HK1.out; omega⟩, by repeat (first | exact Drawn0.refl _ | apply Drawn0.step)⟩

/-! ### fleuronref02_low: function 56 -/
def fleuronref02_low.f (k : Nat) (a0 : Int) : Option (Int × Int) := (fleuronref02_series.f k ((wrap64 ((wrap64 (76760392275 * a0)) + 2147483648)) / 4294967296) ((wrap64 ((wrap64 (76760392275 * a0)) + 2147483648)) / 4294967296) 1).bind fun t284 => ((fleuronref02_series.f k 1073741824 ((wrap64 ((wrap64 (76760392275 * a0)) + 2147483648)) / 4294967296) 0).bind fun t285 => (some (t284, t285)))
theorem fleuronref02_low.mono : ∀ a0 k, LeO (fleuronref02_low.f k a0) (fleuronref02_low.f (k + 1) a0) := by
  intro a0 k
  unfold fleuronref02_low.f
  repeat' first
      | (with_reducible exact fleuronref02_series.mono _ _ _ _)
      | (with_reducible exact LeO.refl _)
      | (with_reducible exact LeO.none _)
      | (with_reducible refine LeO.ite ?_ ?_)
      | (with_reducible refine LeO.bind ?_ (fun _ => ?_))
      | exact fleuronref02_series.mono _ _ _ _
      | exact LeO.none _
      | refine LeO.ite ?_ ?_
      | refine LeO.bind ?_ (fun _ => ?_)
set_option maxHeartbeats 8000000 in
set_option maxRecDepth 100000 in
theorem fleuronref02_low.calls (k : Nat) (a0 : Int) (r1 : Int) (r2 : Int) (w : World) (h : fleuronref02_low.f k a0 = some (r1, r2)) :
    Calls Tryz.prog 56 #[.int .i64 a0] w fun e w' => e = .returned (.tuple #[.int .i64 r1, .int .i64 r2]) ∧ Drawn0 w w' := by
  have H : ((fleuronref02_series.f k ((wrap64 ((wrap64 (76760392275 * a0)) + 2147483648)) / 4294967296) ((wrap64 ((wrap64 (76760392275 * a0)) + 2147483648)) / 4294967296) 1).bind fun t284 => ((fleuronref02_series.f k 1073741824 ((wrap64 ((wrap64 (76760392275 * a0)) + 2147483648)) / 4294967296) 0).bind fun t285 => (some (t284, t285)))) = some (r1, r2) := h
  clear h
  replace H := Option.bind_eq_some_iff.mp H
  obtain ⟨t284, A20, H⟩ := H
  replace H : ((fleuronref02_series.f k 1073741824 ((wrap64 ((wrap64 (76760392275 * a0)) + 2147483648)) / 4294967296) 0).bind fun t285 => (some (t284, t285))) = some (r1, r2) := H
  have A2 := Aside0.mk A20
  clear A20
  replace H := Option.bind_eq_some_iff.mp H
  obtain ⟨t285, A30, H⟩ := H
  replace H : (some (t284, t285)) = some (r1, r2) := H
  have A3 := Aside0.mk A30
  clear A30
  simp only [Option.some.injEq, Prod.mk.injEq] at H
  obtain ⟨rfl, rfl⟩ := H
  go_enter Tryz.func56, Tryz.ntmps56
  go_wp2_with (first | ((with_reducible refine gate_callee (f := 69) rfl ?_); refine goesL_ (some 11) rfl rfl Tryz.func69 (by kernel_rfl) rfl #[.int .i64 ((wrap64 ((wrap64 (76760392275 * a0)) + 2147483648)) / 4294967296), .int .i64 ((wrap64 ((wrap64 (76760392275 * a0)) + 2147483648)) / 4294967296), .int .i64 1] rfl (by (try simp only [List.map_toArray, List.map_cons, List.map_nil]); first | done | rfl | (simp only [List.length_drop, List.length_take]; rfl)) ?_; (with_reducible refine (fleuronref02_series.calls k ((wrap64 ((wrap64 (76760392275 * a0)) + 2147483648)) / 4294967296) ((wrap64 ((wrap64 (76760392275 * a0)) + 2147483648)) / 4294967296) 1 t284 _ A2.out).mono ?_); rintro e w' ⟨rfl, ⟨nd, rfl⟩⟩; refine ⟨_, rfl, ?_⟩) | ((with_reducible refine gate_callee (f := 69) rfl ?_); refine goesL_ (some 13) rfl rfl Tryz.func69 (by kernel_rfl) rfl #[.int .i64 1073741824, .int .i64 ((wrap64 ((wrap64 (76760392275 * a0)) + 2147483648)) / 4294967296), .int .i64 0] rfl (by (try simp only [List.map_toArray, List.map_cons, List.map_nil]); first | done | rfl | (simp only [List.length_drop, List.length_take]; rfl)) ?_; (with_reducible refine (fleuronref02_series.calls k 1073741824 ((wrap64 ((wrap64 (76760392275 * a0)) + 2147483648)) / 4294967296) 0 t285 _ A3.out).mono ?_); rintro e w' ⟨rfl, ⟨nd, rfl⟩⟩; refine ⟨_, rfl, ?_⟩))
  go_ret2
  exact ⟨by first | rfl | (simp; done) | (simp [*]; done), by repeat (first | exact Drawn0.refl _ | apply Drawn0.step)⟩

/-! ### fleuronref02_Circle: function 41 -/
mutual
def fleuronref02_Circle.j0 : Nat → Int → Int → Int → Option (Int × Int)
  | 0, _, _, _ => none
  | k + 1, x6, x7, x8 => fleuronref02_Circle.l0 k x6 x7 x8
def fleuronref02_Circle.l0 : Nat → Int → Int → Int → Option (Int × Int)
  | 0, _, _, _ => none
  | k + 1, x6, x7, x8 => if x6 > 0 then (fleuronref02_Circle.l0 k (wrap64 (x6 - 1)) x8 (wrap64 (-x7))) else (some (x7, x8))
end
def fleuronref02_Circle.f (k : Nat) (a0 : Int) : Option (Int × Int) := (fleuronref02_down.f a0 377487360).bind fun t286 => (if (wrap64 ((wrap64 (a0 - (wrap64 (t286 * 377487360)))) - (wrap64 ((wrap64 (Int.tdiv (wrap64 (a0 - (wrap64 (t286 * 377487360)))) 94371840)) * 94371840)))) > 47185920 then ((fleuronref02_low.f k (wrap64 (94371840 - (wrap64 ((wrap64 (a0 - (wrap64 (t286 * 377487360)))) - (wrap64 ((wrap64 (Int.tdiv (wrap64 (a0 - (wrap64 (t286 * 377487360)))) 94371840)) * 94371840))))))).bind fun bt287 => (fleuronref02_Circle.j0 k (wrap64 (Int.tdiv (wrap64 (a0 - (wrap64 (t286 * 377487360)))) 94371840)) bt287.2 bt287.1)) else ((fleuronref02_low.f k (wrap64 ((wrap64 (a0 - (wrap64 (t286 * 377487360)))) - (wrap64 ((wrap64 (Int.tdiv (wrap64 (a0 - (wrap64 (t286 * 377487360)))) 94371840)) * 94371840))))).bind fun bt289 => (fleuronref02_Circle.j0 k (wrap64 (Int.tdiv (wrap64 (a0 - (wrap64 (t286 * 377487360)))) 94371840)) bt289.1 bt289.2)))
theorem fleuronref02_Circle.mono_l : ∀ k, (∀ y0 y1 y2, LeO (fleuronref02_Circle.j0 k y0 y1 y2) (fleuronref02_Circle.j0 (k + 1) y0 y1 y2)) ∧ (∀ y0 y1 y2, LeO (fleuronref02_Circle.l0 k y0 y1 y2) (fleuronref02_Circle.l0 (k + 1) y0 y1 y2))
  | 0 => ⟨fun _ _ _ r h => by simp [fleuronref02_Circle.j0] at h, fun _ _ _ r h => by simp [fleuronref02_Circle.l0] at h⟩
  | k + 1 => by
    obtain ⟨ih0, ih1⟩ := fleuronref02_Circle.mono_l k
    refine ⟨?_, ?_⟩
    · intro y0 y1 y2
      unfold fleuronref02_Circle.j0
      repeat' first
      | (with_reducible exact ih0 _ _ _)
      | (with_reducible exact ih1 _ _ _)
      | (with_reducible exact fleuronref02_low.mono _ _)
      | (with_reducible exact LeO.refl _)
      | (with_reducible exact LeO.none _)
      | (with_reducible refine LeO.ite ?_ ?_)
      | (with_reducible refine LeO.bind ?_ (fun _ => ?_))
      | exact ih0 _ _ _
      | exact ih1 _ _ _
      | exact fleuronref02_low.mono _ _
      | exact LeO.none _
      | refine LeO.ite ?_ ?_
      | refine LeO.bind ?_ (fun _ => ?_)
    · intro y0 y1 y2
      unfold fleuronref02_Circle.l0
      repeat' first
      | (with_reducible exact ih0 _ _ _)
      | (with_reducible exact ih1 _ _ _)
      | (with_reducible exact fleuronref02_low.mono _ _)
      | (with_reducible exact LeO.refl _)
      | (with_reducible exact LeO.none _)
      | (with_reducible refine LeO.ite ?_ ?_)
      | (with_reducible refine LeO.bind ?_ (fun _ => ?_))
      | exact ih0 _ _ _
      | exact ih1 _ _ _
      | exact fleuronref02_low.mono _ _
      | exact LeO.none _
      | refine LeO.ite ?_ ?_
      | refine LeO.bind ?_ (fun _ => ?_)
theorem fleuronref02_Circle.mono : ∀ a0 k, LeO (fleuronref02_Circle.f k a0) (fleuronref02_Circle.f (k + 1) a0) := by
  intro a0 k
  obtain ⟨ih0, ih1⟩ := fleuronref02_Circle.mono_l k
  unfold fleuronref02_Circle.f
  repeat' first
      | (with_reducible exact ih0 _ _ _)
      | (with_reducible exact ih1 _ _ _)
      | (with_reducible exact fleuronref02_low.mono _ _)
      | (with_reducible exact LeO.refl _)
      | (with_reducible exact LeO.none _)
      | (with_reducible refine LeO.ite ?_ ?_)
      | (with_reducible refine LeO.bind ?_ (fun _ => ?_))
      | exact ih0 _ _ _
      | exact ih1 _ _ _
      | exact fleuronref02_low.mono _ _
      | exact LeO.none _
      | refine LeO.ite ?_ ?_
      | refine LeO.bind ?_ (fun _ => ?_)
set_option maxHeartbeats 8000000 in
set_option maxRecDepth 100000 in
theorem fleuronref02_Circle.calls (k : Nat) (a0 : Int) (r1 : Int) (r2 : Int) (w : World) (h : fleuronref02_Circle.f k a0 = some (r1, r2)) :
    Calls Tryz.prog 41 #[.int .i64 a0] w fun e w' => e = .returned (.tuple #[.int .i64 r1, .int .i64 r2]) ∧ Drawn0 w w' := by
  have H : ((fleuronref02_down.f a0 377487360).bind fun t286 => (if (wrap64 ((wrap64 (a0 - (wrap64 (t286 * 377487360)))) - (wrap64 ((wrap64 (Int.tdiv (wrap64 (a0 - (wrap64 (t286 * 377487360)))) 94371840)) * 94371840)))) > 47185920 then ((fleuronref02_low.f k (wrap64 (94371840 - (wrap64 ((wrap64 (a0 - (wrap64 (t286 * 377487360)))) - (wrap64 ((wrap64 (Int.tdiv (wrap64 (a0 - (wrap64 (t286 * 377487360)))) 94371840)) * 94371840))))))).bind fun bt287 => (fleuronref02_Circle.j0 k (wrap64 (Int.tdiv (wrap64 (a0 - (wrap64 (t286 * 377487360)))) 94371840)) bt287.2 bt287.1)) else ((fleuronref02_low.f k (wrap64 ((wrap64 (a0 - (wrap64 (t286 * 377487360)))) - (wrap64 ((wrap64 (Int.tdiv (wrap64 (a0 - (wrap64 (t286 * 377487360)))) 94371840)) * 94371840))))).bind fun bt289 => (fleuronref02_Circle.j0 k (wrap64 (Int.tdiv (wrap64 (a0 - (wrap64 (t286 * 377487360)))) 94371840)) bt289.1 bt289.2)))) = some (r1, r2) := h
  clear h
  replace H := Option.bind_eq_some_iff.mp H
  obtain ⟨t286, A20, H⟩ := H
  replace H : (if (wrap64 ((wrap64 (a0 - (wrap64 (t286 * 377487360)))) - (wrap64 ((wrap64 (Int.tdiv (wrap64 (a0 - (wrap64 (t286 * 377487360)))) 94371840)) * 94371840)))) > 47185920 then ((fleuronref02_low.f k (wrap64 (94371840 - (wrap64 ((wrap64 (a0 - (wrap64 (t286 * 377487360)))) - (wrap64 ((wrap64 (Int.tdiv (wrap64 (a0 - (wrap64 (t286 * 377487360)))) 94371840)) * 94371840))))))).bind fun bt287 => (fleuronref02_Circle.j0 k (wrap64 (Int.tdiv (wrap64 (a0 - (wrap64 (t286 * 377487360)))) 94371840)) bt287.2 bt287.1)) else ((fleuronref02_low.f k (wrap64 ((wrap64 (a0 - (wrap64 (t286 * 377487360)))) - (wrap64 ((wrap64 (Int.tdiv (wrap64 (a0 - (wrap64 (t286 * 377487360)))) 94371840)) * 94371840))))).bind fun bt289 => (fleuronref02_Circle.j0 k (wrap64 (Int.tdiv (wrap64 (a0 - (wrap64 (t286 * 377487360)))) 94371840)) bt289.1 bt289.2))) = some (r1, r2) := H
  have A2 := Aside0.mk A20
  clear A20
  have HC3 := Aside0.mk H
  clear H
  go_enter Tryz.func41, Tryz.ntmps41
  go_upto_if 24 with (first | ((with_reducible refine gate_callee (f := 53) rfl ?_); refine goesL_ (some 13) rfl rfl Tryz.func53 (by kernel_rfl) rfl #[.int .i64 a0, .int .i64 377487360] rfl (by (try simp only [List.map_toArray, List.map_cons, List.map_nil]); first | done | rfl | (simp only [List.length_drop, List.length_take]; rfl)) ?_; (with_reducible refine (fleuronref02_down.calls a0 377487360 t286 _ A2.out).mono ?_); rintro e w' ⟨rfl, ⟨nd, rfl⟩⟩; refine ⟨_, rfl, ?_⟩))
  (try simp only [Act.put, List.setIfInBounds_toArray, List.set_cons_zero, List.set_cons_succ])
  go_cut [7, 8] (fun v7 v8 wc => ∃ (kq : Nat) (x7_2 : Int) (x8_2 : Int), v7 = .int .i64 x7_2 ∧ v8 = .int .i64 x8_2 ∧ Aside0 (fleuronref02_Circle.j0 kq (wrap64 (Int.tdiv (wrap64 (a0 - (wrap64 (t286 * 377487360)))) 94371840)) x7_2 x8_2 = some (r1, r2)) ∧ Aside0 (kq ≤ k) ∧ Drawn0 w wc)
  case first =>
    have H := HC3.out
    clear HC3
    by_cases c4 : (wrap64 ((wrap64 (a0 - (wrap64 (t286 * 377487360)))) - (wrap64 ((wrap64 (Int.tdiv (wrap64 (a0 - (wrap64 (t286 * 377487360)))) 94371840)) * 94371840)))) > 47185920
    · rw [if_pos c4] at H
      have c4b0 : decide (47185920 < (wrap64 ((wrap64 (a0 - (wrap64 (t286 * 377487360)))) - (wrap64 ((wrap64 (Int.tdiv (wrap64 (a0 - (wrap64 (t286 * 377487360)))) 94371840)) * 94371840))))) = true := decide_eq_true c4
      clear c4
      (first | rw [c4b0] | (simp only [i64_w, i32_w]; rw [c4b0]) | skip)
      replace H := Option.bind_eq_some_iff.mp H
      obtain ⟨⟨t287, t288⟩, A50, H⟩ := H
      replace H : (fleuronref02_Circle.j0 k (wrap64 (Int.tdiv (wrap64 (a0 - (wrap64 (t286 * 377487360)))) 94371840)) t288 t287) = some (r1, r2) := H
      have A5 := Aside0.mk A50
      clear A50
      have H' := Aside0.mk H
      clear H
      go_wp2_with (first | ((with_reducible refine gate_callee (f := 56) rfl ?_); refine goesL_ (some 28) rfl rfl Tryz.func56 (by kernel_rfl) rfl #[.int .i64 (wrap64 (94371840 - (wrap64 ((wrap64 (a0 - (wrap64 (t286 * 377487360)))) - (wrap64 ((wrap64 (Int.tdiv (wrap64 (a0 - (wrap64 (t286 * 377487360)))) 94371840)) * 94371840))))))] rfl (by (try simp only [List.map_toArray, List.map_cons, List.map_nil]); first | done | rfl | (simp only [List.length_drop, List.length_take]; rfl)) ?_; (with_reducible refine (fleuronref02_low.calls k (wrap64 (94371840 - (wrap64 ((wrap64 (a0 - (wrap64 (t286 * 377487360)))) - (wrap64 ((wrap64 (Int.tdiv (wrap64 (a0 - (wrap64 (t286 * 377487360)))) 94371840)) * 94371840)))))) t287 t288 _ A5.out).mono ?_); rintro e w' ⟨rfl, ⟨nd, rfl⟩⟩; refine ⟨_, rfl, ?_⟩))
      go_meet
      case rel => exact ⟨_, (t288), (t287), (by first | rfl | (simp; done) | (simp [*]; done)), (by first | rfl | (simp; done) | (simp [*]; done)), H', ⟨by first | omega | exact Nat.le_refl _⟩, by repeat (first | exact Drawn0.refl _ | apply Drawn0.step)⟩
    · rw [if_neg c4] at H
      have c4b0 : decide (47185920 < (wrap64 ((wrap64 (a0 - (wrap64 (t286 * 377487360)))) - (wrap64 ((wrap64 (Int.tdiv (wrap64 (a0 - (wrap64 (t286 * 377487360)))) 94371840)) * 94371840))))) = false := decide_eq_false c4
      clear c4
      (first | rw [c4b0] | (simp only [i64_w, i32_w]; rw [c4b0]) | skip)
      replace H := Option.bind_eq_some_iff.mp H
      obtain ⟨⟨t289, t290⟩, A60, H⟩ := H
      replace H : (fleuronref02_Circle.j0 k (wrap64 (Int.tdiv (wrap64 (a0 - (wrap64 (t286 * 377487360)))) 94371840)) t289 t290) = some (r1, r2) := H
      have A6 := Aside0.mk A60
      clear A60
      have H' := Aside0.mk H
      clear H
      go_wp2_with (first | ((with_reducible refine gate_callee (f := 56) rfl ?_); refine goesL_ (some 33) rfl rfl Tryz.func56 (by kernel_rfl) rfl #[.int .i64 (wrap64 ((wrap64 (a0 - (wrap64 (t286 * 377487360)))) - (wrap64 ((wrap64 (Int.tdiv (wrap64 (a0 - (wrap64 (t286 * 377487360)))) 94371840)) * 94371840))))] rfl (by (try simp only [List.map_toArray, List.map_cons, List.map_nil]); first | done | rfl | (simp only [List.length_drop, List.length_take]; rfl)) ?_; (with_reducible refine (fleuronref02_low.calls k (wrap64 ((wrap64 (a0 - (wrap64 (t286 * 377487360)))) - (wrap64 ((wrap64 (Int.tdiv (wrap64 (a0 - (wrap64 (t286 * 377487360)))) 94371840)) * 94371840)))) t289 t290 _ A6.out).mono ?_); rintro e w' ⟨rfl, ⟨nd, rfl⟩⟩; refine ⟨_, rfl, ?_⟩))
      go_meet
      case rel => exact ⟨_, (t289), (t290), (by first | rfl | (simp; done) | (simp [*]; done)), (by first | rfl | (simp; done) | (simp [*]; done)), H', ⟨by first | omega | exact Nat.le_refl _⟩, by repeat (first | exact Drawn0.refl _ | apply Drawn0.step)⟩
  case rest =>
    clear HC3
    try clear p2
    try clear c4
    try clear c4b0
    try clear c5
    try clear p6
    obtain ⟨kq, x7_2, x8_2, rfl, rfl, HA, HJ2, ⟨mc2, rfl⟩⟩ := hcut
    cases kq with
    | zero => exact absurd HA.out (by simp [fleuronref02_Circle.j0])
    | succ kj2 =>
      have H := HA.out
      clear HA
      simp only [fleuronref02_Circle.j0] at H
      have H' := Aside0.mk H
      clear H
      go_wp2
      go_loopg [6, 7, 8] kj2 (fun kq v6 v7 v8 w' => ∃ (x6_2 : Int) (x7_2 : Int) (x8_2 : Int), v6 = .int .i64 x6_2 ∧ v7 = .int .i64 x7_2 ∧ v8 = .int .i64 x8_2 ∧ Aside0 (fleuronref02_Circle.l0 kq x6_2 x7_2 x8_2 = some (r1, r2)) ∧ Aside0 (kq ≤ kj2) ∧ Drawn0 w w')
      case atStart => exact ⟨((wrap64 (Int.tdiv (wrap64 (a0 - (wrap64 (t286 * 377487360)))) 94371840))), (x7_2), (x8_2), (by first | rfl | (simp; done) | (simp [*]; done)), (by first | rfl | (simp; done) | (simp [*]; done)), (by first | rfl | (simp; done) | (simp [*]; done)), H', ⟨Nat.le_refl _⟩, by repeat (first | exact Drawn0.refl _ | apply Drawn0.step)⟩
      case round =>
        clear H'
        try clear c2
        try clear p2
        try clear c4
        try clear c4b0
        try clear c5
        try clear p6
        try clear p2
        try clear p6
        obtain ⟨x6_2, x7_2, x8_2, rfl, rfl, rfl, HA, HK2, ⟨m2, rfl⟩⟩ := hrel
        cases gk with
        | zero => exact absurd HA.out (by simp [fleuronref02_Circle.l0])
        | succ k2 =>
          have H := HA.out
          clear HA
          simp only [fleuronref02_Circle.l0] at H
          by_cases c7 : x6_2 > 0
          · rw [if_pos c7] at H
            have c7b0 : decide (0 < x6_2) = true := decide_eq_true c7
            clear c7
            have H' := Aside0.mk H
            clear H
            go_wp2
            go_roundg k2
            case measure => have := HJ2.out; have := HK2.out; omega
            case rel => exact ⟨(wrap64 (x6_2 - 1)), (x8_2), (wrap64 (-x7_2)), (by first | rfl | (simp; done) | (simp [*]; done)), (by first | rfl | (simp; done) | (simp [*]; done)), (by first | rfl | (simp; done) | (simp [*]; done)), H', ⟨by have := HJ2.out; have := HK2.out; omega⟩, by repeat (first | exact Drawn0.refl _ | apply Drawn0.step)⟩
          · rw [if_neg c7] at H
            have c7b0 : decide (0 < x6_2) = false := decide_eq_false c7
            clear c7
            simp only [Option.some.injEq, Prod.mk.injEq] at H
            obtain ⟨rfl, rfl⟩ := H
            go_wp2
            go_ret2
            exact ⟨by first | rfl | (simp; done) | (simp [*]; done), by repeat (first | exact Drawn0.refl _ | apply Drawn0.step)⟩

/-! ### fleuronref02_Sine: function 19 -/
def fleuronref02_Sine.f (k : Nat) (a0 : Int) : Option (Int × Int × Int) := (fleuronref02_angle.f a0).bind fun t291 => (if t291 = true then ((fleuronref02_Circle.f k a0).bind fun bt292 => (some (bt292.1, bt292.2, 0))) else (some (0, 0, 2)))
theorem fleuronref02_Sine.mono : ∀ a0 k, LeO (fleuronref02_Sine.f k a0) (fleuronref02_Sine.f (k + 1) a0) := by
  intro a0 k
  unfold fleuronref02_Sine.f
  repeat' first
      | (with_reducible exact fleuronref02_Circle.mono _ _)
      | (with_reducible exact LeO.refl _)
      | (with_reducible exact LeO.none _)
      | (with_reducible refine LeO.ite ?_ ?_)
      | (with_reducible refine LeO.bind ?_ (fun _ => ?_))
      | exact fleuronref02_Circle.mono _ _
      | exact LeO.none _
      | refine LeO.ite ?_ ?_
      | refine LeO.bind ?_ (fun _ => ?_)
set_option maxHeartbeats 8000000 in
set_option maxRecDepth 100000 in
theorem fleuronref02_Sine.calls (k : Nat) (a0 : Int) (r1 : Int) (r2 : Int) (r3 : Int) (w : World) (h : fleuronref02_Sine.f k a0 = some (r1, r2, r3)) :
    Calls Tryz.prog 19 #[.int .i64 a0] w fun e w' => e = .returned (.tuple #[.int .i64 r1, .int .i64 r2, .int .i64 r3]) ∧ Drawn0 w w' := by
  have H : ((fleuronref02_angle.f a0).bind fun t291 => (if t291 = true then ((fleuronref02_Circle.f k a0).bind fun bt292 => (some (bt292.1, bt292.2, 0))) else (some (0, 0, 2)))) = some (r1, r2, r3) := h
  clear h
  replace H := Option.bind_eq_some_iff.mp H
  obtain ⟨t291, A20, H⟩ := H
  replace H : (if t291 = true then ((fleuronref02_Circle.f k a0).bind fun bt292 => (some (bt292.1, bt292.2, 0))) else (some (0, 0, 2))) = some (r1, r2, r3) := H
  have A2 := Aside0.mk A20
  clear A20
  by_cases c3 : t291 = true
  · subst c3
    have H1 : ((fleuronref02_Circle.f k a0).bind fun bt292 => (some (bt292.1, bt292.2, 0))) = some (r1, r2, r3) := by rw [if_pos rfl] at H; exact H
    clear H
    have H := H1
    clear H1
    replace H := Option.bind_eq_some_iff.mp H
    obtain ⟨⟨t292, t293⟩, A40, H⟩ := H
    replace H : (some (t292, t293, 0)) = some (r1, r2, r3) := H
    have A4 := Aside0.mk A40
    clear A40
    simp only [Option.some.injEq, Prod.mk.injEq] at H
    obtain ⟨rfl, rfl, rfl⟩ := H
    go_enter Tryz.func19, Tryz.ntmps19
    go_wp2_with (first | ((with_reducible refine gate_callee (f := 40) rfl ?_); refine goesL_ (some 8) rfl rfl Tryz.func40 (by kernel_rfl) rfl #[.int .i64 a0] rfl (by (try simp only [List.map_toArray, List.map_cons, List.map_nil]); first | done | rfl | (simp only [List.length_drop, List.length_take]; rfl)) ?_; (with_reducible refine (fleuronref02_angle.calls a0 true _ A2.out).mono ?_); rintro e w' ⟨rfl, ⟨nd, rfl⟩⟩; refine ⟨_, rfl, ?_⟩) | ((with_reducible refine gate_callee (f := 41) rfl ?_); refine goesL_ (some 12) rfl rfl Tryz.func41 (by kernel_rfl) rfl #[.int .i64 a0] rfl (by (try simp only [List.map_toArray, List.map_cons, List.map_nil]); first | done | rfl | (simp only [List.length_drop, List.length_take]; rfl)) ?_; (with_reducible refine (fleuronref02_Circle.calls k a0 t292 t293 _ A4.out).mono ?_); rintro e w' ⟨rfl, ⟨nd, rfl⟩⟩; refine ⟨_, rfl, ?_⟩))
    go_ret3
    exact ⟨by first | rfl | (simp; done) | (simp [*]; done), by repeat (first | exact Drawn0.refl _ | apply Drawn0.step)⟩
  · replace c3 := Bool.eq_false_iff.mpr c3
    subst c3
    have H1 : (some (0, 0, 2)) = some (r1, r2, r3) := by rw [if_neg (show ¬ (false = true) by decide)] at H; exact H
    clear H
    have H := H1
    clear H1
    simp only [Option.some.injEq, Prod.mk.injEq] at H
    obtain ⟨rfl, rfl, rfl⟩ := H
    go_enter Tryz.func19, Tryz.ntmps19
    go_wp2_with (first | ((with_reducible refine gate_callee (f := 40) rfl ?_); refine goesL_ (some 8) rfl rfl Tryz.func40 (by kernel_rfl) rfl #[.int .i64 a0] rfl (by (try simp only [List.map_toArray, List.map_cons, List.map_nil]); first | done | rfl | (simp only [List.length_drop, List.length_take]; rfl)) ?_; (with_reducible refine (fleuronref02_angle.calls a0 false _ A2.out).mono ?_); rintro e w' ⟨rfl, ⟨nd, rfl⟩⟩; refine ⟨_, rfl, ?_⟩))
    go_ret3
    exact ⟨by first | rfl | (simp; done) | (simp [*]; done), by repeat (first | exact Drawn0.refl _ | apply Drawn0.step)⟩

/-! ### fleuronref02_Dir: function 21 -/
def fleuronref02_Dir.f (k : Nat) (a0 : Int) : Option (Int × Int × Int) := (fleuronref02_angle.f a0).bind fun t294 => (if t294 = true then ((fleuronref02_Circle.f k a0).bind fun bt295 => ((fleuronref02_near.f (wrap64 (bt295.2 * 65536)) 268435456).bind fun t297 => ((fleuronref02_near.f (wrap64 (bt295.1 * 65536)) 268435456).bind fun t298 => (some (t297, t298, 0))))) else (some (0, 0, 2)))
theorem fleuronref02_Dir.mono : ∀ a0 k, LeO (fleuronref02_Dir.f k a0) (fleuronref02_Dir.f (k + 1) a0) := by
  intro a0 k
  unfold fleuronref02_Dir.f
  repeat' first
      | (with_reducible exact fleuronref02_Circle.mono _ _)
      | (with_reducible exact LeO.refl _)
      | (with_reducible exact LeO.none _)
      | (with_reducible refine LeO.ite ?_ ?_)
      | (with_reducible refine LeO.bind ?_ (fun _ => ?_))
      | exact fleuronref02_Circle.mono _ _
      | exact LeO.none _
      | refine LeO.ite ?_ ?_
      | refine LeO.bind ?_ (fun _ => ?_)
set_option maxHeartbeats 8000000 in
set_option maxRecDepth 100000 in
theorem fleuronref02_Dir.calls (k : Nat) (a0 : Int) (r1 : Int) (r2 : Int) (r3 : Int) (w : World) (h : fleuronref02_Dir.f k a0 = some (r1, r2, r3)) :
    Calls Tryz.prog 21 #[.int .i64 a0] w fun e w' => e = .returned (.tuple #[.int .i64 r1, .int .i64 r2, .int .i64 r3]) ∧ Drawn0 w w' := by
  have H : ((fleuronref02_angle.f a0).bind fun t294 => (if t294 = true then ((fleuronref02_Circle.f k a0).bind fun bt295 => ((fleuronref02_near.f (wrap64 (bt295.2 * 65536)) 268435456).bind fun t297 => ((fleuronref02_near.f (wrap64 (bt295.1 * 65536)) 268435456).bind fun t298 => (some (t297, t298, 0))))) else (some (0, 0, 2)))) = some (r1, r2, r3) := h
  clear h
  replace H := Option.bind_eq_some_iff.mp H
  obtain ⟨t294, A20, H⟩ := H
  replace H : (if t294 = true then ((fleuronref02_Circle.f k a0).bind fun bt295 => ((fleuronref02_near.f (wrap64 (bt295.2 * 65536)) 268435456).bind fun t297 => ((fleuronref02_near.f (wrap64 (bt295.1 * 65536)) 268435456).bind fun t298 => (some (t297, t298, 0))))) else (some (0, 0, 2))) = some (r1, r2, r3) := H
  have A2 := Aside0.mk A20
  clear A20
  by_cases c3 : t294 = true
  · subst c3
    have H1 : ((fleuronref02_Circle.f k a0).bind fun bt295 => ((fleuronref02_near.f (wrap64 (bt295.2 * 65536)) 268435456).bind fun t297 => ((fleuronref02_near.f (wrap64 (bt295.1 * 65536)) 268435456).bind fun t298 => (some (t297, t298, 0))))) = some (r1, r2, r3) := by rw [if_pos rfl] at H; exact H
    clear H
    have H := H1
    clear H1
    replace H := Option.bind_eq_some_iff.mp H
    obtain ⟨⟨t295, t296⟩, A40, H⟩ := H
    replace H : ((fleuronref02_near.f (wrap64 (t296 * 65536)) 268435456).bind fun t297 => ((fleuronref02_near.f (wrap64 (t295 * 65536)) 268435456).bind fun t298 => (some (t297, t298, 0)))) = some (r1, r2, r3) := H
    have A4 := Aside0.mk A40
    clear A40
    replace H := Option.bind_eq_some_iff.mp H
    obtain ⟨t297, A50, H⟩ := H
    replace H : ((fleuronref02_near.f (wrap64 (t295 * 65536)) 268435456).bind fun t298 => (some (t297, t298, 0))) = some (r1, r2, r3) := H
    have A5 := Aside0.mk A50
    clear A50
    replace H := Option.bind_eq_some_iff.mp H
    obtain ⟨t298, A60, H⟩ := H
    replace H : (some (t297, t298, 0)) = some (r1, r2, r3) := H
    have A6 := Aside0.mk A60
    clear A60
    simp only [Option.some.injEq, Prod.mk.injEq] at H
    obtain ⟨rfl, rfl, rfl⟩ := H
    go_enter Tryz.func21, Tryz.ntmps21
    go_wp2_with (first | ((with_reducible refine gate_callee (f := 40) rfl ?_); refine goesL_ (some 8) rfl rfl Tryz.func40 (by kernel_rfl) rfl #[.int .i64 a0] rfl (by (try simp only [List.map_toArray, List.map_cons, List.map_nil]); first | done | rfl | (simp only [List.length_drop, List.length_take]; rfl)) ?_; (with_reducible refine (fleuronref02_angle.calls a0 true _ A2.out).mono ?_); rintro e w' ⟨rfl, ⟨nd, rfl⟩⟩; refine ⟨_, rfl, ?_⟩) | ((with_reducible refine gate_callee (f := 41) rfl ?_); refine goesL_ (some 12) rfl rfl Tryz.func41 (by kernel_rfl) rfl #[.int .i64 a0] rfl (by (try simp only [List.map_toArray, List.map_cons, List.map_nil]); first | done | rfl | (simp only [List.length_drop, List.length_take]; rfl)) ?_; (with_reducible refine (fleuronref02_Circle.calls k a0 t295 t296 _ A4.out).mono ?_); rintro e w' ⟨rfl, ⟨nd, rfl⟩⟩; refine ⟨_, rfl, ?_⟩) | ((with_reducible refine gate_callee (f := 35) rfl ?_); refine goesL_ (some 17) rfl rfl Tryz.func35 (by kernel_rfl) rfl #[.int .i64 (wrap64 (t296 * 65536)), .int .i64 268435456] rfl (by (try simp only [List.map_toArray, List.map_cons, List.map_nil]); first | done | rfl | (simp only [List.length_drop, List.length_take]; rfl)) ?_; (with_reducible refine (fleuronref02_near.calls (wrap64 (t296 * 65536)) 268435456 t297 _ A5.out).mono ?_); rintro e w' ⟨rfl, ⟨nd, rfl⟩⟩; refine ⟨_, rfl, ?_⟩) | ((with_reducible refine gate_callee (f := 35) rfl ?_); refine goesL_ (some 20) rfl rfl Tryz.func35 (by kernel_rfl) rfl #[.int .i64 (wrap64 (t295 * 65536)), .int .i64 268435456] rfl (by (try simp only [List.map_toArray, List.map_cons, List.map_nil]); first | done | rfl | (simp only [List.length_drop, List.length_take]; rfl)) ?_; (with_reducible refine (fleuronref02_near.calls (wrap64 (t295 * 65536)) 268435456 t298 _ A6.out).mono ?_); rintro e w' ⟨rfl, ⟨nd, rfl⟩⟩; refine ⟨_, rfl, ?_⟩))
    go_ret3
    exact ⟨by first | rfl | (simp; done) | (simp [*]; done), by repeat (first | exact Drawn0.refl _ | apply Drawn0.step)⟩
  · replace c3 := Bool.eq_false_iff.mpr c3
    subst c3
    have H1 : (some (0, 0, 2)) = some (r1, r2, r3) := by rw [if_neg (show ¬ (false = true) by decide)] at H; exact H
    clear H
    have H := H1
    clear H1
    simp only [Option.some.injEq, Prod.mk.injEq] at H
    obtain ⟨rfl, rfl, rfl⟩ := H
    go_enter Tryz.func21, Tryz.ntmps21
    go_wp2_with (first | ((with_reducible refine gate_callee (f := 40) rfl ?_); refine goesL_ (some 8) rfl rfl Tryz.func40 (by kernel_rfl) rfl #[.int .i64 a0] rfl (by (try simp only [List.map_toArray, List.map_cons, List.map_nil]); first | done | rfl | (simp only [List.length_drop, List.length_take]; rfl)) ?_; (with_reducible refine (fleuronref02_angle.calls a0 false _ A2.out).mono ?_); rintro e w' ⟨rfl, ⟨nd, rfl⟩⟩; refine ⟨_, rfl, ?_⟩))
    go_ret3
    exact ⟨by first | rfl | (simp; done) | (simp [*]; done), by repeat (first | exact Drawn0.refl _ | apply Drawn0.step)⟩

/-! ### fleuronlaw02_FixSines: function 5 -/
def fleuronlaw02_FixSines.f (k : Nat) (a0 : Int) : Option (Bool) := (fix_Sine.f k a0).bind fun bt299 => ((fleuronref02_Sine.f k a0).bind fun bt302 => ((fix_Dir.f k a0).bind fun bt305 => ((fleuronref02_Dir.f k a0).bind fun bt308 => (if bt299.1 = bt302.1 then (if bt299.2.1 = bt302.2.1 then (if bt299.2.2 = bt302.2.2 then (if bt305.1 = bt308.1 then (if bt305.2.1 = bt308.2.1 then (if bt305.2.2 = bt308.2.2 then ((fleuronlaw02_awake.f k).bind fun t311 => (some t311)) else (some false)) else (some false)) else (some false)) else (some false)) else (some false)) else (some false)))))
theorem fleuronlaw02_FixSines.mono : ∀ a0 k, LeO (fleuronlaw02_FixSines.f k a0) (fleuronlaw02_FixSines.f (k + 1) a0) := by
  intro a0 k
  unfold fleuronlaw02_FixSines.f
  repeat' first
      | (with_reducible exact fix_Dir.mono _ _)
      | (with_reducible exact fix_Sine.mono _ _)
      | (with_reducible exact fleuronlaw02_awake.mono _)
      | (with_reducible exact fleuronref02_Dir.mono _ _)
      | (with_reducible exact fleuronref02_Sine.mono _ _)
      | (with_reducible exact LeO.refl _)
      | (with_reducible exact LeO.none _)
      | (with_reducible refine LeO.ite ?_ ?_)
      | (with_reducible refine LeO.bind ?_ (fun _ => ?_))
      | exact fix_Dir.mono _ _
      | exact fix_Sine.mono _ _
      | exact fleuronlaw02_awake.mono _
      | exact fleuronref02_Dir.mono _ _
      | exact fleuronref02_Sine.mono _ _
      | exact LeO.none _
      | refine LeO.ite ?_ ?_
      | refine LeO.bind ?_ (fun _ => ?_)
set_option maxHeartbeats 8000000 in
set_option maxRecDepth 100000 in
theorem fleuronlaw02_FixSines.callsT (k : Nat) (a0 : Int) (w : World) (ht_ : LaidOK w) (h : fleuronlaw02_FixSines.f k a0 = some true) :
    Calls Tryz.prog 5 #[.int .i64 a0] w fun e w' => e = .returned (.bool true) ∧ Below w.heap.size w w' := by
  have HB := Aside0.mk (Below.refl w.heap.size w)
  have HT_ := Aside0.mk ht_
  clear ht_
  have H : ((fix_Sine.f k a0).bind fun bt299 => ((fleuronref02_Sine.f k a0).bind fun bt302 => ((fix_Dir.f k a0).bind fun bt305 => ((fleuronref02_Dir.f k a0).bind fun bt308 => (if bt299.1 = bt302.1 then (if bt299.2.1 = bt302.2.1 then (if bt299.2.2 = bt302.2.2 then (if bt305.1 = bt308.1 then (if bt305.2.1 = bt308.2.1 then (if bt305.2.2 = bt308.2.2 then ((fleuronlaw02_awake.f k).bind fun t311 => (some t311)) else (some false)) else (some false)) else (some false)) else (some false)) else (some false)) else (some false)))))) = some true := h
  clear h
  replace H := Option.bind_eq_some_iff.mp H
  obtain ⟨⟨t299, t300, t301⟩, A20, H⟩ := H
  replace H : ((fleuronref02_Sine.f k a0).bind fun bt302 => ((fix_Dir.f k a0).bind fun bt305 => ((fleuronref02_Dir.f k a0).bind fun bt308 => (if t299 = bt302.1 then (if t300 = bt302.2.1 then (if t301 = bt302.2.2 then (if bt305.1 = bt308.1 then (if bt305.2.1 = bt308.2.1 then (if bt305.2.2 = bt308.2.2 then ((fleuronlaw02_awake.f k).bind fun t311 => (some t311)) else (some false)) else (some false)) else (some false)) else (some false)) else (some false)) else (some false))))) = some true := H
  have A2 := Aside0.mk A20
  clear A20
  replace H := Option.bind_eq_some_iff.mp H
  obtain ⟨⟨t302, t303, t304⟩, A30, H⟩ := H
  replace H : ((fix_Dir.f k a0).bind fun bt305 => ((fleuronref02_Dir.f k a0).bind fun bt308 => (if t299 = t302 then (if t300 = t303 then (if t301 = t304 then (if bt305.1 = bt308.1 then (if bt305.2.1 = bt308.2.1 then (if bt305.2.2 = bt308.2.2 then ((fleuronlaw02_awake.f k).bind fun t311 => (some t311)) else (some false)) else (some false)) else (some false)) else (some false)) else (some false)) else (some false)))) = some true := H
  have A3 := Aside0.mk A30
  clear A30
  replace H := Option.bind_eq_some_iff.mp H
  obtain ⟨⟨t305, t306, t307⟩, A40, H⟩ := H
  replace H : ((fleuronref02_Dir.f k a0).bind fun bt308 => (if t299 = t302 then (if t300 = t303 then (if t301 = t304 then (if t305 = bt308.1 then (if t306 = bt308.2.1 then (if t307 = bt308.2.2 then ((fleuronlaw02_awake.f k).bind fun t311 => (some t311)) else (some false)) else (some false)) else (some false)) else (some false)) else (some false)) else (some false))) = some true := H
  have A4 := Aside0.mk A40
  clear A40
  replace H := Option.bind_eq_some_iff.mp H
  obtain ⟨⟨t308, t309, t310⟩, A50, H⟩ := H
  replace H : (if t299 = t302 then (if t300 = t303 then (if t301 = t304 then (if t305 = t308 then (if t306 = t309 then (if t307 = t310 then ((fleuronlaw02_awake.f k).bind fun t311 => (some t311)) else (some false)) else (some false)) else (some false)) else (some false)) else (some false)) else (some false)) = some true := H
  have A5 := Aside0.mk A50
  clear A50
  by_cases c6 : t299 = t302
  · rw [if_pos c6] at H
    have c6b0 : (t299 == t302) = true := beq_iff_eq.mpr c6
    have c6b1 : (t299 != t302) = false := bne_eq_false_iff_eq.mpr c6
    clear c6
    by_cases c7 : t300 = t303
    · rw [if_pos c7] at H
      have c7b0 : (t300 == t303) = true := beq_iff_eq.mpr c7
      have c7b1 : (t300 != t303) = false := bne_eq_false_iff_eq.mpr c7
      clear c7
      by_cases c8 : t301 = t304
      · rw [if_pos c8] at H
        have c8b0 : (t301 == t304) = true := beq_iff_eq.mpr c8
        have c8b1 : (t301 != t304) = false := bne_eq_false_iff_eq.mpr c8
        clear c8
        by_cases c9 : t305 = t308
        · rw [if_pos c9] at H
          have c9b0 : (t305 == t308) = true := beq_iff_eq.mpr c9
          have c9b1 : (t305 != t308) = false := bne_eq_false_iff_eq.mpr c9
          clear c9
          by_cases c10 : t306 = t309
          · rw [if_pos c10] at H
            have c10b0 : (t306 == t309) = true := beq_iff_eq.mpr c10
            have c10b1 : (t306 != t309) = false := bne_eq_false_iff_eq.mpr c10
            clear c10
            by_cases c11 : t307 = t310
            · rw [if_pos c11] at H
              have c11b0 : (t307 == t310) = true := beq_iff_eq.mpr c11
              have c11b1 : (t307 != t310) = false := bne_eq_false_iff_eq.mpr c11
              clear c11
              replace H := Option.bind_eq_some_iff.mp H
              obtain ⟨t311, A120, H⟩ := H
              replace H : (some t311) = some true := H
              have A12 := Aside0.mk A120
              clear A120
              have hr_ := Option.some.inj H
              clear H
              go_enter Tryz.func5, Tryz.ntmps5
              go_wp2_with (first | ((with_reducible refine gate_callee (f := 18) rfl ?_); refine goesL_ (some 17) rfl rfl Tryz.func18 (by kernel_rfl) rfl #[.int .i64 a0] rfl (by (try simp only [List.map_toArray, List.map_cons, List.map_nil]); first | done | rfl | (simp only [List.length_drop, List.length_take]; rfl)) ?_; (with_reducible refine (fix_Sine.calls k a0 t299 t300 t301 _ A2.out).mono ?_); rintro e w13 ⟨rfl, hb⟩; refine ⟨_, rfl, ?_⟩; have n0_ := Aside0.mk (below_step (by repeat (first | (with_reducible first | exact HB.out | apply below_alloc | apply pw_below_drewN | apply below_drew1) | exact HB.out)) hb); clear HB; have HB := n0_; clear n0_; (try clear hb); (try clear hb2); (try clear hk); (try clear hi)) | ((with_reducible refine gate_callee (f := 19) rfl ?_); refine goesL_ (some 23) rfl rfl Tryz.func19 (by kernel_rfl) rfl #[.int .i64 a0] rfl (by (try simp only [List.map_toArray, List.map_cons, List.map_nil]); first | done | rfl | (simp only [List.length_drop, List.length_take]; rfl)) ?_; (with_reducible refine (fleuronref02_Sine.calls k a0 t302 t303 t304 _ A3.out).mono ?_); rintro e w' ⟨rfl, ⟨nd, rfl⟩⟩; refine ⟨_, rfl, ?_⟩) | ((with_reducible refine gate_callee (f := 20) rfl ?_); refine goesL_ (some 29) rfl rfl Tryz.func20 (by kernel_rfl) rfl #[.int .i64 a0] rfl (by (try simp only [List.map_toArray, List.map_cons, List.map_nil]); first | done | rfl | (simp only [List.length_drop, List.length_take]; rfl)) ?_; (with_reducible refine (fix_Dir.calls k a0 t305 t306 t307 _ A4.out).mono ?_); rintro e w14 ⟨rfl, hb⟩; refine ⟨_, rfl, ?_⟩; have n0_ := Aside0.mk (below_step (by repeat (first | (with_reducible first | exact HB.out | apply below_alloc | apply pw_below_drewN | apply below_drew1) | exact HB.out)) hb); clear HB; have HB := n0_; clear n0_; (try clear hb); (try clear hb2); (try clear hk); (try clear hi)) | ((with_reducible refine gate_callee (f := 21) rfl ?_); refine goesL_ (some 35) rfl rfl Tryz.func21 (by kernel_rfl) rfl #[.int .i64 a0] rfl (by (try simp only [List.map_toArray, List.map_cons, List.map_nil]); first | done | rfl | (simp only [List.length_drop, List.length_take]; rfl)) ?_; (with_reducible refine (fleuronref02_Dir.calls k a0 t308 t309 t310 _ A5.out).mono ?_); rintro e w' ⟨rfl, ⟨nd, rfl⟩⟩; refine ⟨_, rfl, ?_⟩) | (go_at_call 13; (with_reducible refine (fleuronlaw02_awake.callsT k   _ ?side1 (Aside0.mk (by have z_ := A12.out; rw [show t311 = true by assumption] at z_; exact z_)).out).mono ?_); (case side1 => exact LaidOK.below HT_.out (by repeat (first | (with_reducible first | exact HB.out | apply below_alloc | apply pw_below_drewN | apply below_drew1) | exact HB.out))); rintro e w15 ⟨rfl, hb⟩; have n0_ := Aside0.mk (below_step (by repeat (first | (with_reducible first | exact HB.out | apply below_alloc | apply pw_below_drewN | apply below_drew1) | exact HB.out)) hb); clear HB; have HB := n0_; clear n0_; (try clear hb); (try clear hb2); (try clear hk); (try clear hi)))
              go_ret
              exact ⟨by first | rfl | (simp [errW_none, errW_some] <;> rfl) | (simp [*, errW_none, errW_some] <;> rfl), by repeat (first | (with_reducible first | exact HB.out | apply below_alloc | apply pw_below_drewN | apply below_drew1) | exact HB.out)⟩
            · rw [if_neg c11] at H
              have c11b0 : (t307 == t310) = false := beq_eq_false_iff_ne.mpr c11
              have c11b1 : (t307 != t310) = true := bne_iff_ne.mpr c11
              exact absurd H (by simp)
          · rw [if_neg c10] at H
            have c10b0 : (t306 == t309) = false := beq_eq_false_iff_ne.mpr c10
            have c10b1 : (t306 != t309) = true := bne_iff_ne.mpr c10
            exact absurd H (by simp)
        · rw [if_neg c9] at H
          have c9b0 : (t305 == t308) = false := beq_eq_false_iff_ne.mpr c9
          have c9b1 : (t305 != t308) = true := bne_iff_ne.mpr c9
          exact absurd H (by simp)
      · rw [if_neg c8] at H
        have c8b0 : (t301 == t304) = false := beq_eq_false_iff_ne.mpr c8
        have c8b1 : (t301 != t304) = true := bne_iff_ne.mpr c8
        exact absurd H (by simp)
    · rw [if_neg c7] at H
      have c7b0 : (t300 == t303) = false := beq_eq_false_iff_ne.mpr c7
      have c7b1 : (t300 != t303) = true := bne_iff_ne.mpr c7
      exact absurd H (by simp)
  · rw [if_neg c6] at H
    have c6b0 : (t299 == t302) = false := beq_eq_false_iff_ne.mpr c6
    have c6b1 : (t299 != t302) = true := bne_iff_ne.mpr c6
    exact absurd H (by simp)

/-- THE ONE PURE STATEMENT of fleuronlaw02_FixSines: yours. -/
def fleuronlaw02_FixSines.Pure : Prop := ∀ (a0 : Int), (Lit.int .i64 a0).wf = true → ∃ k, fleuronlaw02_FixSines.f k a0 = some true
theorem fleuronlaw02_FixSines.walk (P : fleuronlaw02_FixSines.Pure) (a0 : Int) (w : World) (w0 : (Lit.int .i64 a0).wf = true) (ht_ : LaidOK w) :
    Calls Tryz.prog 5 #[.int .i64 a0] w fun e w' => e = .returned (.bool true) ∧ Below w.heap.size w w' := by
  obtain ⟨k, h⟩ := P a0 w0
  refine (fleuronlaw02_FixSines.callsT k a0 w ht_ h).mono ?_
  rintro e w' ⟨rfl, hd⟩
  exact ⟨rfl, hd⟩

/-! ### fleuronref02_Turn: function 23 -/
def fleuronref02_Turn.j0 : Nat → Int → Int → Int → Bool → Option (Int × Int × Int)
  | 0, _, _, _, _ => none
  | k + 1, x0, x1, x2, x22 => if x22 = true then (some (0, 0, 2)) else ((fleuronref02_Circle.f k x2).bind fun bt317 => ((fleuronref02_near.f (wrap64 ((wrap64 (bt317.2 * x0)) - (wrap64 (bt317.1 * x1)))) 268435456).bind fun t319 => ((fleuronref02_near.f (wrap64 ((wrap64 (bt317.1 * x0)) + (wrap64 (bt317.2 * x1)))) 268435456).bind fun t320 => ((fleuronref02_is.f k (([t319, t320] : List Int))).bind fun t324 => (if t324 = true then (some (t319, t320, 0)) else (some (0, 0, 17)))))))
def fleuronref02_Turn.f (k : Nat) (a0 : Int) (a1 : Int) (a2 : Int) : Option (Int × Int × Int) := (fleuronref02_is.f k (([a0, a1] : List Int))).bind fun t315 => (if t315 = true then ((fleuronref02_angle.f a2).bind fun t316 => (fleuronref02_Turn.j0 k a0 a1 a2 (!t316))) else (fleuronref02_Turn.j0 k a0 a1 a2 true))
theorem fleuronref02_Turn.mono_l : ∀ k, (∀ y0 y1 y2 y3, LeO (fleuronref02_Turn.j0 k y0 y1 y2 y3) (fleuronref02_Turn.j0 (k + 1) y0 y1 y2 y3))
  | 0 => fun _ _ _ _ r h => by simp [fleuronref02_Turn.j0] at h
  | k + 1 => by
    have ih0 := fleuronref02_Turn.mono_l k
    · intro y0 y1 y2 y3
      unfold fleuronref02_Turn.j0
      repeat' first
      | (with_reducible exact ih0 _ _ _ _)
      | (with_reducible exact fleuronref02_Circle.mono _ _)
      | (with_reducible exact fleuronref02_is.mono _ _)
      | (with_reducible exact LeO.refl _)
      | (with_reducible exact LeO.none _)
      | (with_reducible refine LeO.ite ?_ ?_)
      | (with_reducible refine LeO.bind ?_ (fun _ => ?_))
      | exact ih0 _ _ _ _
      | exact fleuronref02_Circle.mono _ _
      | exact fleuronref02_is.mono _ _
      | exact LeO.none _
      | refine LeO.ite ?_ ?_
      | refine LeO.bind ?_ (fun _ => ?_)
theorem fleuronref02_Turn.mono : ∀ a0 a1 a2 k, LeO (fleuronref02_Turn.f k a0 a1 a2) (fleuronref02_Turn.f (k + 1) a0 a1 a2) := by
  intro a0 a1 a2 k
  have ih0 := fleuronref02_Turn.mono_l k
  unfold fleuronref02_Turn.f
  repeat' first
      | (with_reducible exact ih0 _ _ _ _)
      | (with_reducible exact fleuronref02_Circle.mono _ _)
      | (with_reducible exact fleuronref02_is.mono _ _)
      | (with_reducible exact LeO.refl _)
      | (with_reducible exact LeO.none _)
      | (with_reducible refine LeO.ite ?_ ?_)
      | (with_reducible refine LeO.bind ?_ (fun _ => ?_))
      | exact ih0 _ _ _ _
      | exact fleuronref02_Circle.mono _ _
      | exact fleuronref02_is.mono _ _
      | exact LeO.none _
      | refine LeO.ite ?_ ?_
      | refine LeO.bind ?_ (fun _ => ?_)
set_option maxHeartbeats 8000000 in
set_option maxRecDepth 100000 in
theorem fleuronref02_Turn.calls (k : Nat) (a0 : Int) (a1 : Int) (a2 : Int) (r1 : Int) (r2 : Int) (r3 : Int) (w : World) (h : fleuronref02_Turn.f k a0 a1 a2 = some (r1, r2, r3)) :
    Calls Tryz.prog 23 #[.int .i64 a0, .int .i64 a1, .int .i64 a2] w fun e w' => e = .returned (.tuple #[.int .i64 r1, .int .i64 r2, .int .i64 r3]) ∧ Below w.heap.size w w' := by
  have HB := Aside0.mk (Below.refl w.heap.size w)
  have H : ((fleuronref02_is.f k (([a0, a1] : List Int))).bind fun t315 => (if t315 = true then ((fleuronref02_angle.f a2).bind fun t316 => (fleuronref02_Turn.j0 k a0 a1 a2 (!t316))) else (fleuronref02_Turn.j0 k a0 a1 a2 true))) = some (r1, r2, r3) := h
  clear h
  have HC4 := Aside0.mk H
  clear H
  go_enter Tryz.func23, Tryz.ntmps23
  go_upto_region 1 with (fail)
  go_cut [22] (fun v22 wc => ∃ (kq : Nat) (x22_3 : Bool), v22 = .bool x22_3 ∧ Aside0 (fleuronref02_Turn.j0 kq a0 a1 a2 x22_3 = some (r1, r2, r3)) ∧ Aside0 (kq ≤ k) ∧ Aside0 (Below w.heap.size w wc))
  case first =>
    have H := HC4.out
    clear HC4
    obtain ⟨y312, hy312⟩ : ∃ y_ : List Int, y_ = (([a0, a1] : List Int)) := ⟨_, rfl⟩
    replace H : ((fleuronref02_is.f k y312).bind fun t315 => (if t315 = true then ((fleuronref02_angle.f a2).bind fun t316 => (fleuronref02_Turn.j0 k a0 a1 a2 (!t316))) else (fleuronref02_Turn.j0 k a0 a1 a2 true))) = some (r1, r2, r3) := by first | (rw [hy312]; with_reducible exact H) | (have H2_ := (Option.bind_some _ _).symm.trans H; rw [hy312]; with_reducible exact H2_) | (have H2_ := (Option.bind_some _ _).symm.trans H; with_reducible exact H2_) | with_reducible exact H | (rw [hy312]; exact H) | exact H
    have Ny312 := Aside0.mk hy312
    clear hy312
    replace H := Option.bind_eq_some_iff.mp H
    obtain ⟨t315, A50, H⟩ := H
    replace H : (if t315 = true then ((fleuronref02_angle.f a2).bind fun t316 => (fleuronref02_Turn.j0 k a0 a1 a2 (!t316))) else (fleuronref02_Turn.j0 k a0 a1 a2 true)) = some (r1, r2, r3) := H
    have A5 := Aside0.mk A50
    clear A50
    by_cases c6 : t315 = true
    · subst c6
      have H1 : ((fleuronref02_angle.f a2).bind fun t316 => (fleuronref02_Turn.j0 k a0 a1 a2 (!t316))) = some (r1, r2, r3) := by rw [if_pos rfl] at H; exact H
      clear H
      have H := H1
      clear H1
      replace H := Option.bind_eq_some_iff.mp H
      obtain ⟨t316, A70, H⟩ := H
      replace H : (fleuronref02_Turn.j0 k a0 a1 a2 (!t316)) = some (r1, r2, r3) := H
      have A7 := Aside0.mk A70
      clear A70
      have H' := Aside0.mk H
      clear H
      go_wp2_with (first | ((with_reducible refine gate_dst (N := 15) rfl ?_); refine Kd.R_lit (Kd.int .i64) _ 3 ?hg (N := 15) ?hd (xs := ([a0, a1] : List Int)) (inner := [.int .i64 a0, .int .i64 a1]) (ok := fun _ => True) (okp := fun _ => True) ?hr ?hp (fun _ hk => hk) trivial (Below.refl _ _) (Nat.le_refl _) (by simp) ?_; (case hd => rfl); (case hg => rfl); (case hr => first | (go_simp; done) | (go_simp; rfl)); (case hp => exact (Reps.one (show Kd.M (Kd.int .i64) _ _ _ a0 [.int .i64 a0] from rfl) (Reps.one (show Kd.M (Kd.int .i64) _ _ _ a1 [.int .i64 a1] from rfl) (Reps.none _ _)))); intro v313 w8 ho9 hb hg_ hnew_; clear hg_ hnew_; (first | rw [← Ny312.out] at ho9 | (simp only [Int.reduceToNat] at ho9; rw [← Ny312.out] at ho9)); have n0_ := Aside0.mk (Kd.R_lower ho9 (below_size (by repeat (first | (with_reducible first | exact HB.out | apply below_alloc | apply pw_below_drewN | apply below_drew1) | exact HB.out)))); have n1_ := Aside0.mk (below_step (by repeat (first | (with_reducible first | exact HB.out | apply below_alloc | apply pw_below_drewN | apply below_drew1) | exact HB.out)) hb); clear HB; have HO314 := n0_; have HB := n1_; clear n0_ n1_; clear hb ho9; obtain ⟨Ao10, co10, eo10⟩ := Kd.R_slice HO314.out; subst eo10) | ((with_reducible refine gate_callee (f := 33) rfl ?_); refine goesL_ (some 16) rfl rfl Tryz.func33 (by kernel_rfl) rfl #[.slice Ao10 y312.length co10] rfl (by (try simp only [List.map_toArray, List.map_cons, List.map_nil]); first | done | rfl | (simp only [List.length_drop, List.length_take]; rfl)) ?_; (with_reducible refine (fleuronref02_is.calls k _ _ y312 true _ ?side1 ?side2 A5.out).mono ?_); (case side1 => repeat (first | exact (Kd.R_reads' HO314.out).2.2 | (with_reducible refine Kd.C_alloc ?_ _) | (with_reducible refine Kd.C_drewN ?_ _) | (with_reducible refine Kd.C_drew ?_))); (case side2 => exact (Kd.R_reads' HO314.out).2.1); rintro e w' ⟨rfl, ⟨nd, rfl⟩⟩; refine ⟨_, rfl, ?_⟩) | (go_at_call 40; (with_reducible refine (fleuronref02_angle.calls a2 t316 _ A7.out).mono ?_); rintro e w' ⟨rfl, ⟨nd, rfl⟩⟩))
      go_meet
      case rel => exact ⟨_, (!t316), (by first | rfl | (simp; done) | (simp [*]; done)), H', ⟨by first | omega | exact Nat.le_refl _⟩, ⟨by repeat (first | (with_reducible first | exact HB.out | apply below_alloc | apply pw_below_drewN | apply below_drew1) | exact HB.out)⟩⟩
    · replace c6 := Bool.eq_false_iff.mpr c6
      subst c6
      have H1 : (fleuronref02_Turn.j0 k a0 a1 a2 true) = some (r1, r2, r3) := by rw [if_neg (show ¬ (false = true) by decide)] at H; exact H
      clear H
      have H := H1
      clear H1
      have H' := Aside0.mk H
      clear H
      go_wp2_with (first | ((with_reducible refine gate_dst (N := 15) rfl ?_); refine Kd.R_lit (Kd.int .i64) _ 3 ?hg (N := 15) ?hd (xs := ([a0, a1] : List Int)) (inner := [.int .i64 a0, .int .i64 a1]) (ok := fun _ => True) (okp := fun _ => True) ?hr ?hp (fun _ hk => hk) trivial (Below.refl _ _) (Nat.le_refl _) (by simp) ?_; (case hd => rfl); (case hg => rfl); (case hr => first | (go_simp; done) | (go_simp; rfl)); (case hp => exact (Reps.one (show Kd.M (Kd.int .i64) _ _ _ a0 [.int .i64 a0] from rfl) (Reps.one (show Kd.M (Kd.int .i64) _ _ _ a1 [.int .i64 a1] from rfl) (Reps.none _ _)))); intro v313 w11 ho12 hb hg_ hnew_; clear hg_ hnew_; (first | rw [← Ny312.out] at ho12 | (simp only [Int.reduceToNat] at ho12; rw [← Ny312.out] at ho12)); have n0_ := Aside0.mk (Kd.R_lower ho12 (below_size (by repeat (first | (with_reducible first | exact HB.out | apply below_alloc | apply pw_below_drewN | apply below_drew1) | exact HB.out)))); have n1_ := Aside0.mk (below_step (by repeat (first | (with_reducible first | exact HB.out | apply below_alloc | apply pw_below_drewN | apply below_drew1) | exact HB.out)) hb); clear HB; have HO314 := n0_; have HB := n1_; clear n0_ n1_; clear hb ho12; obtain ⟨Ao13, co13, eo13⟩ := Kd.R_slice HO314.out; subst eo13) | ((with_reducible refine gate_callee (f := 33) rfl ?_); refine goesL_ (some 16) rfl rfl Tryz.func33 (by kernel_rfl) rfl #[.slice Ao13 y312.length co13] rfl (by (try simp only [List.map_toArray, List.map_cons, List.map_nil]); first | done | rfl | (simp only [List.length_drop, List.length_take]; rfl)) ?_; (with_reducible refine (fleuronref02_is.calls k _ _ y312 false _ ?side1 ?side2 A5.out).mono ?_); (case side1 => repeat (first | exact (Kd.R_reads' HO314.out).2.2 | (with_reducible refine Kd.C_alloc ?_ _) | (with_reducible refine Kd.C_drewN ?_ _) | (with_reducible refine Kd.C_drew ?_))); (case side2 => exact (Kd.R_reads' HO314.out).2.1); rintro e w' ⟨rfl, ⟨nd, rfl⟩⟩; refine ⟨_, rfl, ?_⟩))
      go_meet
      case rel => exact ⟨_, (true), (by first | rfl | (simp; done) | (simp [*]; done)), H', ⟨by first | omega | exact Nat.le_refl _⟩, ⟨by repeat (first | (with_reducible first | exact HB.out | apply below_alloc | apply pw_below_drewN | apply below_drew1) | exact HB.out)⟩⟩
  case rest =>
    clear HC4
    try clear c2
    try clear p2
    try clear c3
    try clear c6
    obtain ⟨kq, x22_3, rfl, HA, HJ3, HB⟩ := hcut
    cases kq with
    | zero => exact absurd HA.out (by simp [fleuronref02_Turn.j0])
    | succ kj3 =>
      have H := HA.out
      clear HA
      simp only [fleuronref02_Turn.j0] at H
      by_cases c14 : x22_3 = true
      · subst c14
        have H1 : (some (0, 0, 2)) = some (r1, r2, r3) := by rw [if_pos rfl] at H; exact H
        clear H
        have H := H1
        clear H1
        simp only [Option.some.injEq, Prod.mk.injEq] at H
        obtain ⟨rfl, rfl, rfl⟩ := H
        go_wp2
        go_ret3
        exact ⟨by first | rfl | (simp [errW_none, errW_some] <;> rfl) | (simp [*, errW_none, errW_some] <;> rfl), by repeat (first | (with_reducible first | exact HB.out | apply below_alloc | apply pw_below_drewN | apply below_drew1) | exact HB.out)⟩
      · replace c14 := Bool.eq_false_iff.mpr c14
        subst c14
        have H1 : ((fleuronref02_Circle.f kj3 a2).bind fun bt317 => ((fleuronref02_near.f (wrap64 ((wrap64 (bt317.2 * a0)) - (wrap64 (bt317.1 * a1)))) 268435456).bind fun t319 => ((fleuronref02_near.f (wrap64 ((wrap64 (bt317.1 * a0)) + (wrap64 (bt317.2 * a1)))) 268435456).bind fun t320 => ((fleuronref02_is.f kj3 (([t319, t320] : List Int))).bind fun t324 => (if t324 = true then (some (t319, t320, 0)) else (some (0, 0, 17))))))) = some (r1, r2, r3) := by rw [if_neg (show ¬ (false = true) by decide)] at H; exact H
        clear H
        have H := H1
        clear H1
        replace H := Option.bind_eq_some_iff.mp H
        obtain ⟨⟨t317, t318⟩, A150, H⟩ := H
        replace H : ((fleuronref02_near.f (wrap64 ((wrap64 (t318 * a0)) - (wrap64 (t317 * a1)))) 268435456).bind fun t319 => ((fleuronref02_near.f (wrap64 ((wrap64 (t317 * a0)) + (wrap64 (t318 * a1)))) 268435456).bind fun t320 => ((fleuronref02_is.f kj3 (([t319, t320] : List Int))).bind fun t324 => (if t324 = true then (some (t319, t320, 0)) else (some (0, 0, 17)))))) = some (r1, r2, r3) := H
        have A15 := Aside0.mk A150
        clear A150
        replace H := Option.bind_eq_some_iff.mp H
        obtain ⟨t319, A160, H⟩ := H
        replace H : ((fleuronref02_near.f (wrap64 ((wrap64 (t317 * a0)) + (wrap64 (t318 * a1)))) 268435456).bind fun t320 => ((fleuronref02_is.f kj3 (([t319, t320] : List Int))).bind fun t324 => (if t324 = true then (some (t319, t320, 0)) else (some (0, 0, 17))))) = some (r1, r2, r3) := H
        have A16 := Aside0.mk A160
        clear A160
        replace H := Option.bind_eq_some_iff.mp H
        obtain ⟨t320, A170, H⟩ := H
        replace H : ((fleuronref02_is.f kj3 (([t319, t320] : List Int))).bind fun t324 => (if t324 = true then (some (t319, t320, 0)) else (some (0, 0, 17)))) = some (r1, r2, r3) := H
        have A17 := Aside0.mk A170
        clear A170
        obtain ⟨y321, hy321⟩ : ∃ y_ : List Int, y_ = (([t319, t320] : List Int)) := ⟨_, rfl⟩
        replace H : ((fleuronref02_is.f kj3 y321).bind fun t324 => (if t324 = true then (some (t319, t320, 0)) else (some (0, 0, 17)))) = some (r1, r2, r3) := by first | (rw [hy321]; with_reducible exact H) | (have H2_ := (Option.bind_some _ _).symm.trans H; rw [hy321]; with_reducible exact H2_) | (have H2_ := (Option.bind_some _ _).symm.trans H; with_reducible exact H2_) | with_reducible exact H | (rw [hy321]; exact H) | exact H
        have Ny321 := Aside0.mk hy321
        clear hy321
        replace H := Option.bind_eq_some_iff.mp H
        obtain ⟨t324, A180, H⟩ := H
        replace H : (if t324 = true then (some (t319, t320, 0)) else (some (0, 0, 17))) = some (r1, r2, r3) := H
        have A18 := Aside0.mk A180
        clear A180
        by_cases c19 : t324 = true
        · subst c19
          have H1 : (some (t319, t320, 0)) = some (r1, r2, r3) := by rw [if_pos rfl] at H; exact H
          clear H
          have H := H1
          clear H1
          simp only [Option.some.injEq, Prod.mk.injEq] at H
          obtain ⟨rfl, rfl, rfl⟩ := H
          go_wp2_with (first | ((with_reducible refine gate_callee (f := 41) rfl ?_); refine goesL_ (some 25) rfl rfl Tryz.func41 (by kernel_rfl) rfl #[.int .i64 a2] rfl (by (try simp only [List.map_toArray, List.map_cons, List.map_nil]); first | done | rfl | (simp only [List.length_drop, List.length_take]; rfl)) ?_; (with_reducible refine (fleuronref02_Circle.calls kj3 a2 t317 t318 _ A15.out).mono ?_); rintro e w' ⟨rfl, ⟨nd, rfl⟩⟩; refine ⟨_, rfl, ?_⟩) | ((with_reducible refine gate_callee (f := 35) rfl ?_); refine goesL_ (some 35) rfl rfl Tryz.func35 (by kernel_rfl) rfl #[.int .i64 (wrap64 ((wrap64 (t318 * a0)) - (wrap64 (t317 * a1)))), .int .i64 268435456] rfl (by (try simp only [List.map_toArray, List.map_cons, List.map_nil]); first | done | rfl | (simp only [List.length_drop, List.length_take]; rfl)) ?_; (with_reducible refine (fleuronref02_near.calls (wrap64 ((wrap64 (t318 * a0)) - (wrap64 (t317 * a1)))) 268435456 t319 _ A16.out).mono ?_); rintro e w' ⟨rfl, ⟨nd, rfl⟩⟩; refine ⟨_, rfl, ?_⟩) | ((with_reducible refine gate_callee (f := 35) rfl ?_); refine goesL_ (some 43) rfl rfl Tryz.func35 (by kernel_rfl) rfl #[.int .i64 (wrap64 ((wrap64 (t317 * a0)) + (wrap64 (t318 * a1)))), .int .i64 268435456] rfl (by (try simp only [List.map_toArray, List.map_cons, List.map_nil]); first | done | rfl | (simp only [List.length_drop, List.length_take]; rfl)) ?_; (with_reducible refine (fleuronref02_near.calls (wrap64 ((wrap64 (t317 * a0)) + (wrap64 (t318 * a1)))) 268435456 t320 _ A17.out).mono ?_); rintro e w' ⟨rfl, ⟨nd, rfl⟩⟩; refine ⟨_, rfl, ?_⟩) | ((with_reducible refine gate_dst (N := 46) rfl ?_); refine Kd.R_lit (Kd.int .i64) _ 3 ?hg (N := 46) ?hd (xs := ([t319, t320] : List Int)) (inner := [.int .i64 t319, .int .i64 t320]) (ok := fun _ => True) (okp := fun _ => True) ?hr ?hp (fun _ hk => hk) trivial (Below.refl _ _) (Nat.le_refl _) (by simp) ?_; (case hd => rfl); (case hg => rfl); (case hr => first | (go_simp; done) | (go_simp; rfl)); (case hp => exact (Reps.one (show Kd.M (Kd.int .i64) _ _ _ t319 [.int .i64 t319] from rfl) (Reps.one (show Kd.M (Kd.int .i64) _ _ _ t320 [.int .i64 t320] from rfl) (Reps.none _ _)))); intro v322 w20 ho21 hb hg_ hnew_; clear hg_ hnew_; (first | rw [← Ny321.out] at ho21 | (simp only [Int.reduceToNat] at ho21; rw [← Ny321.out] at ho21)); have n0_ := Aside0.mk (Kd.R_lower ho21 (below_size (by repeat (first | (with_reducible first | exact HB.out | apply below_alloc | apply pw_below_drewN | apply below_drew1) | exact HB.out)))); have n1_ := Aside0.mk (below_step (by repeat (first | (with_reducible first | exact HB.out | apply below_alloc | apply pw_below_drewN | apply below_drew1) | exact HB.out)) hb); clear HB; have HO323 := n0_; have HB := n1_; clear n0_ n1_; clear hb ho21; obtain ⟨Ao22, co22, eo22⟩ := Kd.R_slice HO323.out; subst eo22) | ((with_reducible refine gate_callee (f := 33) rfl ?_); refine goesL_ (some 47) rfl rfl Tryz.func33 (by kernel_rfl) rfl #[.slice Ao22 y321.length co22] rfl (by (try simp only [List.map_toArray, List.map_cons, List.map_nil]); first | done | rfl | (simp only [List.length_drop, List.length_take]; rfl)) ?_; (with_reducible refine (fleuronref02_is.calls kj3 _ _ y321 true _ ?side1 ?side2 A18.out).mono ?_); (case side1 => repeat (first | exact (Kd.R_reads' HO323.out).2.2 | (with_reducible refine Kd.C_alloc ?_ _) | (with_reducible refine Kd.C_drewN ?_ _) | (with_reducible refine Kd.C_drew ?_))); (case side2 => exact (Kd.R_reads' HO323.out).2.1); rintro e w' ⟨rfl, ⟨nd, rfl⟩⟩; refine ⟨_, rfl, ?_⟩))
          go_ret3
          exact ⟨by first | rfl | (simp [errW_none, errW_some] <;> rfl) | (simp [*, errW_none, errW_some] <;> rfl), by repeat (first | (with_reducible first | exact HB.out | apply below_alloc | apply pw_below_drewN | apply below_drew1) | exact HB.out)⟩
        · replace c19 := Bool.eq_false_iff.mpr c19
          subst c19
          have H1 : (some (0, 0, 17)) = some (r1, r2, r3) := by rw [if_neg (show ¬ (false = true) by decide)] at H; exact H
          clear H
          have H := H1
          clear H1
          simp only [Option.some.injEq, Prod.mk.injEq] at H
          obtain ⟨rfl, rfl, rfl⟩ := H
          go_wp2_with (first | ((with_reducible refine gate_callee (f := 41) rfl ?_); refine goesL_ (some 25) rfl rfl Tryz.func41 (by kernel_rfl) rfl #[.int .i64 a2] rfl (by (try simp only [List.map_toArray, List.map_cons, List.map_nil]); first | done | rfl | (simp only [List.length_drop, List.length_take]; rfl)) ?_; (with_reducible refine (fleuronref02_Circle.calls kj3 a2 t317 t318 _ A15.out).mono ?_); rintro e w' ⟨rfl, ⟨nd, rfl⟩⟩; refine ⟨_, rfl, ?_⟩) | ((with_reducible refine gate_callee (f := 35) rfl ?_); refine goesL_ (some 35) rfl rfl Tryz.func35 (by kernel_rfl) rfl #[.int .i64 (wrap64 ((wrap64 (t318 * a0)) - (wrap64 (t317 * a1)))), .int .i64 268435456] rfl (by (try simp only [List.map_toArray, List.map_cons, List.map_nil]); first | done | rfl | (simp only [List.length_drop, List.length_take]; rfl)) ?_; (with_reducible refine (fleuronref02_near.calls (wrap64 ((wrap64 (t318 * a0)) - (wrap64 (t317 * a1)))) 268435456 t319 _ A16.out).mono ?_); rintro e w' ⟨rfl, ⟨nd, rfl⟩⟩; refine ⟨_, rfl, ?_⟩) | ((with_reducible refine gate_callee (f := 35) rfl ?_); refine goesL_ (some 43) rfl rfl Tryz.func35 (by kernel_rfl) rfl #[.int .i64 (wrap64 ((wrap64 (t317 * a0)) + (wrap64 (t318 * a1)))), .int .i64 268435456] rfl (by (try simp only [List.map_toArray, List.map_cons, List.map_nil]); first | done | rfl | (simp only [List.length_drop, List.length_take]; rfl)) ?_; (with_reducible refine (fleuronref02_near.calls (wrap64 ((wrap64 (t317 * a0)) + (wrap64 (t318 * a1)))) 268435456 t320 _ A17.out).mono ?_); rintro e w' ⟨rfl, ⟨nd, rfl⟩⟩; refine ⟨_, rfl, ?_⟩) | ((with_reducible refine gate_dst (N := 46) rfl ?_); refine Kd.R_lit (Kd.int .i64) _ 3 ?hg (N := 46) ?hd (xs := ([t319, t320] : List Int)) (inner := [.int .i64 t319, .int .i64 t320]) (ok := fun _ => True) (okp := fun _ => True) ?hr ?hp (fun _ hk => hk) trivial (Below.refl _ _) (Nat.le_refl _) (by simp) ?_; (case hd => rfl); (case hg => rfl); (case hr => first | (go_simp; done) | (go_simp; rfl)); (case hp => exact (Reps.one (show Kd.M (Kd.int .i64) _ _ _ t319 [.int .i64 t319] from rfl) (Reps.one (show Kd.M (Kd.int .i64) _ _ _ t320 [.int .i64 t320] from rfl) (Reps.none _ _)))); intro v322 w23 ho24 hb hg_ hnew_; clear hg_ hnew_; (first | rw [← Ny321.out] at ho24 | (simp only [Int.reduceToNat] at ho24; rw [← Ny321.out] at ho24)); have n0_ := Aside0.mk (Kd.R_lower ho24 (below_size (by repeat (first | (with_reducible first | exact HB.out | apply below_alloc | apply pw_below_drewN | apply below_drew1) | exact HB.out)))); have n1_ := Aside0.mk (below_step (by repeat (first | (with_reducible first | exact HB.out | apply below_alloc | apply pw_below_drewN | apply below_drew1) | exact HB.out)) hb); clear HB; have HO323 := n0_; have HB := n1_; clear n0_ n1_; clear hb ho24; obtain ⟨Ao25, co25, eo25⟩ := Kd.R_slice HO323.out; subst eo25) | ((with_reducible refine gate_callee (f := 33) rfl ?_); refine goesL_ (some 47) rfl rfl Tryz.func33 (by kernel_rfl) rfl #[.slice Ao25 y321.length co25] rfl (by (try simp only [List.map_toArray, List.map_cons, List.map_nil]); first | done | rfl | (simp only [List.length_drop, List.length_take]; rfl)) ?_; (with_reducible refine (fleuronref02_is.calls kj3 _ _ y321 false _ ?side1 ?side2 A18.out).mono ?_); (case side1 => repeat (first | exact (Kd.R_reads' HO323.out).2.2 | (with_reducible refine Kd.C_alloc ?_ _) | (with_reducible refine Kd.C_drewN ?_ _) | (with_reducible refine Kd.C_drew ?_))); (case side2 => exact (Kd.R_reads' HO323.out).2.1); rintro e w' ⟨rfl, ⟨nd, rfl⟩⟩; refine ⟨_, rfl, ?_⟩))
          go_ret3
          exact ⟨by first | rfl | (simp [errW_none, errW_some] <;> rfl) | (simp [*, errW_none, errW_some] <;> rfl), by repeat (first | (with_reducible first | exact HB.out | apply below_alloc | apply pw_below_drewN | apply below_drew1) | exact HB.out)⟩

/-! ### fleuronlaw02_FixTurns: function 6 -/
def fleuronlaw02_FixTurns.f (k : Nat) (a0 : Int) (a1 : Int) (a2 : Int) : Option (Bool) := (fix_Turn.f k a0 a1 a2).bind fun bt325 => ((fleuronref02_Turn.f k a0 a1 a2).bind fun bt328 => (if bt325.1 = bt328.1 then (if bt325.2.1 = bt328.2.1 then (if bt325.2.2 = bt328.2.2 then ((fleuronlaw02_awake.f k).bind fun t331 => (some t331)) else (some false)) else (some false)) else (some false)))
theorem fleuronlaw02_FixTurns.mono : ∀ a0 a1 a2 k, LeO (fleuronlaw02_FixTurns.f k a0 a1 a2) (fleuronlaw02_FixTurns.f (k + 1) a0 a1 a2) := by
  intro a0 a1 a2 k
  unfold fleuronlaw02_FixTurns.f
  repeat' first
      | (with_reducible exact fix_Turn.mono _ _ _ _)
      | (with_reducible exact fleuronlaw02_awake.mono _)
      | (with_reducible exact fleuronref02_Turn.mono _ _ _ _)
      | (with_reducible exact LeO.refl _)
      | (with_reducible exact LeO.none _)
      | (with_reducible refine LeO.ite ?_ ?_)
      | (with_reducible refine LeO.bind ?_ (fun _ => ?_))
      | exact fix_Turn.mono _ _ _ _
      | exact fleuronlaw02_awake.mono _
      | exact fleuronref02_Turn.mono _ _ _ _
      | exact LeO.none _
      | refine LeO.ite ?_ ?_
      | refine LeO.bind ?_ (fun _ => ?_)
set_option maxHeartbeats 8000000 in
set_option maxRecDepth 100000 in
theorem fleuronlaw02_FixTurns.callsT (k : Nat) (a0 : Int) (a1 : Int) (a2 : Int) (w : World) (ht_ : LaidOK w) (h : fleuronlaw02_FixTurns.f k a0 a1 a2 = some true) :
    Calls Tryz.prog 6 #[.int .i64 a0, .int .i64 a1, .int .i64 a2] w fun e w' => e = .returned (.bool true) ∧ Below w.heap.size w w' := by
  have HB := Aside0.mk (Below.refl w.heap.size w)
  have HT_ := Aside0.mk ht_
  clear ht_
  have H : ((fix_Turn.f k a0 a1 a2).bind fun bt325 => ((fleuronref02_Turn.f k a0 a1 a2).bind fun bt328 => (if bt325.1 = bt328.1 then (if bt325.2.1 = bt328.2.1 then (if bt325.2.2 = bt328.2.2 then ((fleuronlaw02_awake.f k).bind fun t331 => (some t331)) else (some false)) else (some false)) else (some false)))) = some true := h
  clear h
  replace H := Option.bind_eq_some_iff.mp H
  obtain ⟨⟨t325, t326, t327⟩, A40, H⟩ := H
  replace H : ((fleuronref02_Turn.f k a0 a1 a2).bind fun bt328 => (if t325 = bt328.1 then (if t326 = bt328.2.1 then (if t327 = bt328.2.2 then ((fleuronlaw02_awake.f k).bind fun t331 => (some t331)) else (some false)) else (some false)) else (some false))) = some true := H
  have A4 := Aside0.mk A40
  clear A40
  replace H := Option.bind_eq_some_iff.mp H
  obtain ⟨⟨t328, t329, t330⟩, A50, H⟩ := H
  replace H : (if t325 = t328 then (if t326 = t329 then (if t327 = t330 then ((fleuronlaw02_awake.f k).bind fun t331 => (some t331)) else (some false)) else (some false)) else (some false)) = some true := H
  have A5 := Aside0.mk A50
  clear A50
  by_cases c6 : t325 = t328
  · rw [if_pos c6] at H
    have c6b0 : (t325 == t328) = true := beq_iff_eq.mpr c6
    have c6b1 : (t325 != t328) = false := bne_eq_false_iff_eq.mpr c6
    clear c6
    by_cases c7 : t326 = t329
    · rw [if_pos c7] at H
      have c7b0 : (t326 == t329) = true := beq_iff_eq.mpr c7
      have c7b1 : (t326 != t329) = false := bne_eq_false_iff_eq.mpr c7
      clear c7
      by_cases c8 : t327 = t330
      · rw [if_pos c8] at H
        have c8b0 : (t327 == t330) = true := beq_iff_eq.mpr c8
        have c8b1 : (t327 != t330) = false := bne_eq_false_iff_eq.mpr c8
        clear c8
        replace H := Option.bind_eq_some_iff.mp H
        obtain ⟨t331, A90, H⟩ := H
        replace H : (some t331) = some true := H
        have A9 := Aside0.mk A90
        clear A90
        have hr_ := Option.some.inj H
        clear H
        go_enter Tryz.func6, Tryz.ntmps6
        go_wp2_with (first | ((with_reducible refine gate_callee (f := 22) rfl ?_); refine goesL_ (some 17) rfl rfl Tryz.func22 (by kernel_rfl) rfl #[.int .i64 a0, .int .i64 a1, .int .i64 a2] rfl (by (try simp only [List.map_toArray, List.map_cons, List.map_nil]); first | done | rfl | (simp only [List.length_drop, List.length_take]; rfl)) ?_; (with_reducible refine (fix_Turn.calls k a0 a1 a2 t325 t326 t327 _ A4.out).mono ?_); rintro e w10 ⟨rfl, hb⟩; refine ⟨_, rfl, ?_⟩; have n0_ := Aside0.mk (below_step (by repeat (first | (with_reducible first | exact HB.out | apply below_alloc | apply pw_below_drewN | apply below_drew1) | exact HB.out)) hb); clear HB; have HB := n0_; clear n0_; (try clear hb); (try clear hb2); (try clear hk); (try clear hi)) | ((with_reducible refine gate_callee (f := 23) rfl ?_); refine goesL_ (some 25) rfl rfl Tryz.func23 (by kernel_rfl) rfl #[.int .i64 a0, .int .i64 a1, .int .i64 a2] rfl (by (try simp only [List.map_toArray, List.map_cons, List.map_nil]); first | done | rfl | (simp only [List.length_drop, List.length_take]; rfl)) ?_; (with_reducible refine (fleuronref02_Turn.calls k a0 a1 a2 t328 t329 t330 _ A5.out).mono ?_); rintro e w11 ⟨rfl, hb⟩; refine ⟨_, rfl, ?_⟩; have n0_ := Aside0.mk (below_step (by repeat (first | (with_reducible first | exact HB.out | apply below_alloc | apply pw_below_drewN | apply below_drew1) | exact HB.out)) hb); clear HB; have HB := n0_; clear n0_; (try clear hb); (try clear hb2); (try clear hk); (try clear hi)) | (go_at_call 13; (with_reducible refine (fleuronlaw02_awake.callsT k   _ ?side1 (Aside0.mk (by have z_ := A9.out; rw [show t331 = true by assumption] at z_; exact z_)).out).mono ?_); (case side1 => exact LaidOK.below HT_.out (by repeat (first | (with_reducible first | exact HB.out | apply below_alloc | apply pw_below_drewN | apply below_drew1) | exact HB.out))); rintro e w12 ⟨rfl, hb⟩; have n0_ := Aside0.mk (below_step (by repeat (first | (with_reducible first | exact HB.out | apply below_alloc | apply pw_below_drewN | apply below_drew1) | exact HB.out)) hb); clear HB; have HB := n0_; clear n0_; (try clear hb); (try clear hb2); (try clear hk); (try clear hi)))
        go_ret
        exact ⟨by first | rfl | (simp [errW_none, errW_some] <;> rfl) | (simp [*, errW_none, errW_some] <;> rfl), by repeat (first | (with_reducible first | exact HB.out | apply below_alloc | apply pw_below_drewN | apply below_drew1) | exact HB.out)⟩
      · rw [if_neg c8] at H
        have c8b0 : (t327 == t330) = false := beq_eq_false_iff_ne.mpr c8
        have c8b1 : (t327 != t330) = true := bne_iff_ne.mpr c8
        exact absurd H (by simp)
    · rw [if_neg c7] at H
      have c7b0 : (t326 == t329) = false := beq_eq_false_iff_ne.mpr c7
      have c7b1 : (t326 != t329) = true := bne_iff_ne.mpr c7
      exact absurd H (by simp)
  · rw [if_neg c6] at H
    have c6b0 : (t325 == t328) = false := beq_eq_false_iff_ne.mpr c6
    have c6b1 : (t325 != t328) = true := bne_iff_ne.mpr c6
    exact absurd H (by simp)

/-- THE ONE PURE STATEMENT of fleuronlaw02_FixTurns: yours. -/
def fleuronlaw02_FixTurns.Pure : Prop := ∀ (a0 : Int) (a1 : Int) (a2 : Int), (Lit.int .i64 a0).wf = true → (Lit.int .i64 a1).wf = true → (Lit.int .i64 a2).wf = true → ∃ k, fleuronlaw02_FixTurns.f k a0 a1 a2 = some true
theorem fleuronlaw02_FixTurns.walk (P : fleuronlaw02_FixTurns.Pure) (a0 : Int) (a1 : Int) (a2 : Int) (w : World) (w0 : (Lit.int .i64 a0).wf = true) (w1 : (Lit.int .i64 a1).wf = true) (w2 : (Lit.int .i64 a2).wf = true) (ht_ : LaidOK w) :
    Calls Tryz.prog 6 #[.int .i64 a0, .int .i64 a1, .int .i64 a2] w fun e w' => e = .returned (.bool true) ∧ Below w.heap.size w w' := by
  obtain ⟨k, h⟩ := P a0 a1 a2 w0 w1 w2
  refine (fleuronlaw02_FixTurns.callsT k a0 a1 a2 w ht_ h).mono ?_
  rintro e w' ⟨rfl, hd⟩
  exact ⟨rfl, hd⟩

end Go.Proofs.YtjaifahodfljkaaGreatDoor.Z
