/- Laid by program (this session's, over the kit's print): functions of this seat as plain Lean functions, each with its contract. -/
import Derived.Test.YtjaifahodfljkaaGreatDoorZx0
import Derived.Test.YtjaifahodfljkaaGreatDoorZx1
import Derived.Test.YtjaifahodfljkaaGreatDoorZx3
import Derived.Test.YtjaifahodfljkaaGreatDoorZx5
import Derived.Test.YtjaifahodfljkaaGreatDoorZx6
namespace Go.Proofs.YtjaifahodfljkaaGreatDoor.Z
open Go.RowKit Go.Proofs.YtjaifahodfljkaaGreatDoorW.PrintWords Go.Proofs.YtjaifahodfljkaaGreatDoorW.PrintLast Go.Proofs.YtjaifahodfljkaaGreatDoorW.PrintMore
attribute [local go_sem] max2_int min2_int max_two min_two max_three min_three max_four min_four   -- for this text's walks alone
set_option linter.unusedVariables false
set_option linter.unusedSimpArgs false

/-! ### fleuronref02_first: function 43 -/
def fleuronref02_first.l0 : Nat → Int → Int → Int → Int → Option (Int)
  | 0, _, _, _, _ => none
  | k + 1, x0, x1, x5, x6 => if x6 ≥ 0 then (if 0 ≤ x6 then (if (wrap64 (x5 + (shl .i64 1 x6))) ≤ 47185920 then ((fleuronref02_Circle.f k (wrap64 (x5 + (shl .i64 1 x6)))).bind fun bt332 => (if (wrap64 (bt332.1 * x0)) ≤ (wrap64 (bt332.2 * x1)) then (fleuronref02_first.l0 k x0 x1 (wrap64 (x5 + (shl .i64 1 x6))) (wrap64 (x6 - 1))) else (fleuronref02_first.l0 k x0 x1 x5 (wrap64 (x6 - 1))))) else (fleuronref02_first.l0 k x0 x1 x5 (wrap64 (x6 - 1)))) else (none)) else (some x5)
def fleuronref02_first.f (k : Nat) (a0 : Int) (a1 : Int) : Option (Int) := if a0 = a1 then (some 47185920) else (fleuronref02_first.l0 k a0 a1 0 25)
theorem fleuronref02_first.mono_l : ∀ k, (∀ y0 y1 y2 y3, LeO (fleuronref02_first.l0 k y0 y1 y2 y3) (fleuronref02_first.l0 (k + 1) y0 y1 y2 y3))
  | 0 => fun _ _ _ _ r h => by simp [fleuronref02_first.l0] at h
  | k + 1 => by
    have ih0 := fleuronref02_first.mono_l k
    · intro y0 y1 y2 y3
      unfold fleuronref02_first.l0
      repeat' first
      | (with_reducible exact ih0 _ _ _ _)
      | (with_reducible exact fleuronref02_Circle.mono _ _)
      | (with_reducible exact LeO.refl _)
      | (with_reducible exact LeO.none _)
      | (with_reducible refine LeO.ite ?_ ?_)
      | (with_reducible refine LeO.bind ?_ (fun _ => ?_))
      | exact ih0 _ _ _ _
      | exact fleuronref02_Circle.mono _ _
      | exact LeO.none _
      | refine LeO.ite ?_ ?_
      | refine LeO.bind ?_ (fun _ => ?_)
theorem fleuronref02_first.mono : ∀ a0 a1 k, LeO (fleuronref02_first.f k a0 a1) (fleuronref02_first.f (k + 1) a0 a1) := by
  intro a0 a1 k
  have ih0 := fleuronref02_first.mono_l k
  unfold fleuronref02_first.f
  repeat' first
      | (with_reducible exact ih0 _ _ _ _)
      | (with_reducible exact fleuronref02_Circle.mono _ _)
      | (with_reducible exact LeO.refl _)
      | (with_reducible exact LeO.none _)
      | (with_reducible refine LeO.ite ?_ ?_)
      | (with_reducible refine LeO.bind ?_ (fun _ => ?_))
      | exact ih0 _ _ _ _
      | exact fleuronref02_Circle.mono _ _
      | exact LeO.none _
      | refine LeO.ite ?_ ?_
      | refine LeO.bind ?_ (fun _ => ?_)
set_option maxHeartbeats 8000000 in
set_option maxRecDepth 100000 in
theorem fleuronref02_first.calls (k : Nat) (a0 : Int) (a1 : Int) (r : Int) (w : World) (h : fleuronref02_first.f k a0 a1 = some r) :
    Calls Tryz.prog 43 #[.int .i64 a0, .int .i64 a1] w fun e w' => e = .returned (.int .i64 r) ∧ Drawn0 w w' := by
  have H : (if a0 = a1 then (some 47185920) else (fleuronref02_first.l0 k a0 a1 0 25)) = some r := h
  clear h
  by_cases c3 : a0 = a1
  · rw [if_pos c3] at H
    have c3b0 : (a0 == a1) = true := beq_iff_eq.mpr c3
    have c3b1 : (a0 != a1) = false := bne_eq_false_iff_eq.mpr c3
    clear c3
    obtain rfl := Option.some.inj H
    go_enter Tryz.func43, Tryz.ntmps43
    go_wp2
    go_ret
    exact ⟨by first | rfl | (simp; done) | (simp [*]; done), by repeat (first | exact Drawn0.refl _ | apply Drawn0.step)⟩
  · rw [if_neg c3] at H
    have c3b0 : (a0 == a1) = false := beq_eq_false_iff_ne.mpr c3
    have c3b1 : (a0 != a1) = true := bne_iff_ne.mpr c3
    have H' := Aside0.mk H
    clear H
    go_enter Tryz.func43, Tryz.ntmps43
    go_wp2
    go_loopg [5, 6] k (fun kq v5 v6 w' => ∃ (x5_1 : Int) (x6_1 : Int), v5 = .int .i64 x5_1 ∧ v6 = .int .i64 x6_1 ∧ Aside0 (fleuronref02_first.l0 kq a0 a1 x5_1 x6_1 = some r) ∧ Aside0 (kq ≤ k) ∧ Drawn0 w w')
    case atStart => exact ⟨(0), (25), (by first | rfl | (simp; done) | (simp [*]; done)), (by first | rfl | (simp; done) | (simp [*]; done)), H', ⟨Nat.le_refl _⟩, by repeat (first | exact Drawn0.refl _ | apply Drawn0.step)⟩
    case round =>
      clear H'
      try clear p2
      try clear c3
      try clear c3b0
      try clear c3b1
      obtain ⟨x5_1, x6_1, rfl, rfl, HA, HK1, ⟨m1, rfl⟩⟩ := hrel
      cases gk with
      | zero => exact absurd HA.out (by simp [fleuronref02_first.l0])
      | succ k1 =>
        have H := HA.out
        clear HA
        simp only [fleuronref02_first.l0] at H
        by_cases c4 : x6_1 ≥ 0
        · rw [if_pos c4] at H
          have c4b0 : decide (0 ≤ x6_1) = true := decide_eq_true c4
          clear c4
          by_cases c5 : 0 ≤ x6_1
          · rw [if_pos c5] at H
            have c5b0 := eq_true c5
            have c5b1 : decide (0 ≤ x6_1) = true := decide_eq_true c5
            clear c5
            obtain ⟨ji6, hji6⟩ : ∃ j_ : Int, (shl .i64 1 x6_1) = j_ := ⟨_, rfl⟩
            replace H : (if (wrap64 (x5_1 + (ji6))) ≤ 47185920 then ((fleuronref02_Circle.f k1 (wrap64 (x5_1 + (ji6)))).bind fun bt332 => (if (wrap64 (bt332.1 * a0)) ≤ (wrap64 (bt332.2 * a1)) then (fleuronref02_first.l0 k1 a0 a1 (wrap64 (x5_1 + (ji6))) (wrap64 (x6_1 - 1))) else (fleuronref02_first.l0 k1 a0 a1 x5_1 (wrap64 (x6_1 - 1))))) else (fleuronref02_first.l0 k1 a0 a1 x5_1 (wrap64 (x6_1 - 1)))) = some r := by first | (rw [hji6] at H; exact H) | (simp only [hji6] at H ⊢; exact H)
            have hji6_ : (IntKind.i64.wrap (1 * 2 ^ min x6_1.toNat 64)) = ji6 := hji6
            have hji6z : x6_1 ≤ 64 → (IntKind.i64.wrap (1 * 2 ^ x6_1.toNat)) = ji6 := shl_small hji6
            have hji6u : (IntKind.i64.wrap (2 ^ min x6_1.toNat 64)) = ji6 := by have h_ := hji6_; rw [Int.one_mul] at h_; exact h_
            have hji6v : x6_1 ≤ 64 → (IntKind.i64.wrap (2 ^ x6_1.toNat)) = ji6 := fun hle_ => by have h_ := hji6z hle_; rw [Int.one_mul] at h_; exact h_
            have hji6y : (wrap64 (1 * 2 ^ min x6_1.toNat 64)) = ji6 := (i64_w _).symm.trans hji6_
            have hji6x : x6_1 ≤ 64 → (wrap64 (1 * 2 ^ x6_1.toNat)) = ji6 := fun h_ => (i64_w _).symm.trans (hji6z h_)
            by_cases c7 : (wrap64 (x5_1 + (ji6))) ≤ 47185920
            · rw [if_pos c7] at H
              have c7b0 : decide ((wrap64 (x5_1 + (ji6))) ≤ 47185920) = true := decide_eq_true c7
              clear c7
              replace H := Option.bind_eq_some_iff.mp H
              obtain ⟨⟨t332, t333⟩, A80, H⟩ := H
              replace H : (if (wrap64 (t332 * a0)) ≤ (wrap64 (t333 * a1)) then (fleuronref02_first.l0 k1 a0 a1 (wrap64 (x5_1 + (ji6))) (wrap64 (x6_1 - 1))) else (fleuronref02_first.l0 k1 a0 a1 x5_1 (wrap64 (x6_1 - 1)))) = some r := H
              have A8 := Aside0.mk A80
              clear A80
              by_cases c9 : (wrap64 (t332 * a0)) ≤ (wrap64 (t333 * a1))
              · rw [if_pos c9] at H
                have c9b0 : decide ((wrap64 (t332 * a0)) ≤ (wrap64 (t333 * a1))) = true := decide_eq_true c9
                clear c9
                have H' := Aside0.mk H
                clear H
                go_wp2_with (first | ((with_reducible refine gate_callee (f := 41) rfl ?_); refine goesL_ (some 25) rfl rfl Tryz.func41 (by kernel_rfl) rfl #[.int .i64 (wrap64 (x5_1 + (ji6)))] rfl (by (try simp only [List.map_toArray, List.map_cons, List.map_nil]); first | done | (simp only [hji6]; rfl) | rfl | (simp only [List.length_drop, List.length_take]; rfl)) ?_; (with_reducible refine (fleuronref02_Circle.calls k1 (wrap64 (x5_1 + (ji6))) t332 t333 _ A8.out).mono ?_); rintro e w' ⟨rfl, ⟨nd, rfl⟩⟩; refine ⟨_, rfl, ?_⟩))
                go_roundg k1
                case measure => have := HK1.out; omega
                case rel => exact ⟨(wrap64 (x5_1 + (ji6))), (wrap64 (x6_1 - 1)), (by first | rfl | (simp; done) | (simp only [← hji6] <;> (first | rfl | simp)) | (simp [*]; done)), (by first | rfl | (simp; done) | (simp [*]; done)), H', ⟨by have := HK1.out; omega⟩, by repeat (first | exact Drawn0.refl _ | apply Drawn0.step)⟩
              · rw [if_neg c9] at H
                have c9b0 : decide ((wrap64 (t332 * a0)) ≤ (wrap64 (t333 * a1))) = false := decide_eq_false c9
                clear c9
                have H' := Aside0.mk H
                clear H
                go_wp2_with (first | ((with_reducible refine gate_callee (f := 41) rfl ?_); refine goesL_ (some 25) rfl rfl Tryz.func41 (by kernel_rfl) rfl #[.int .i64 (wrap64 (x5_1 + (ji6)))] rfl (by (try simp only [List.map_toArray, List.map_cons, List.map_nil]); first | done | (simp only [hji6]; rfl) | rfl | (simp only [List.length_drop, List.length_take]; rfl)) ?_; (with_reducible refine (fleuronref02_Circle.calls k1 (wrap64 (x5_1 + (ji6))) t332 t333 _ A8.out).mono ?_); rintro e w' ⟨rfl, ⟨nd, rfl⟩⟩; refine ⟨_, rfl, ?_⟩))
                go_roundg k1
                case measure => have := HK1.out; omega
                case rel => exact ⟨(x5_1), (wrap64 (x6_1 - 1)), (by first | rfl | (simp; done) | (simp [*]; done)), (by first | rfl | (simp; done) | (simp [*]; done)), H', ⟨by have := HK1.out; omega⟩, by repeat (first | exact Drawn0.refl _ | apply Drawn0.step)⟩
            · rw [if_neg c7] at H
              have c7b0 : decide ((wrap64 (x5_1 + (ji6))) ≤ 47185920) = false := decide_eq_false c7
              clear c7
              have H' := Aside0.mk H
              clear H
              go_wp2
              go_roundg k1
              case measure => have := HK1.out; omega
              case rel => exact ⟨(x5_1), (wrap64 (x6_1 - 1)), (by first | rfl | (simp; done) | (simp [*]; done)), (by first | rfl | (simp; done) | (simp [*]; done)), H', ⟨by have := HK1.out; omega⟩, by repeat (first | exact Drawn0.refl _ | apply Drawn0.step)⟩
          · rw [if_neg c5] at H
            exact absurd H (by simp)
        · rw [if_neg c4] at H
          have c4b0 : decide (0 ≤ x6_1) = false := decide_eq_false c4
          clear c4
          obtain rfl := Option.some.inj H
          go_wp2
          go_ret
          exact ⟨by first | rfl | (simp; done) | (simp [*]; done), by repeat (first | exact Drawn0.refl _ | apply Drawn0.step)⟩

/-! ### fleuronref02_Arg: function 25 -/
mutual
def fleuronref02_Arg.j0 : Nat → Int → Int → Bool → Option (Int × Int)
  | 0, _, _, _ => none
  | k + 1, x0, x1, x19 => if x19 = true then (some (0, 18)) else ((fleuronref02_first.f k (mx (mx x0 (wrap64 (-x0))) (mx x1 (wrap64 (-x1)))) (mn (mx x0 (wrap64 (-x0))) (mx x1 (wrap64 (-x1))))).bind fun t338 => (if (mx x1 (wrap64 (-x1))) > (mx x0 (wrap64 (-x0))) then (fleuronref02_Arg.j1 k x0 x1 (wrap64 (94371840 - t338))) else (fleuronref02_Arg.j1 k x0 x1 t338)))
def fleuronref02_Arg.j1 : Nat → Int → Int → Int → Option (Int × Int)
  | 0, _, _, _ => none
  | k + 1, x0, x1, x8 => if x0 < 0 then (if x1 < 0 then (some (wrap64 (-(wrap64 (188743680 - x8))), 0)) else (some (wrap64 (188743680 - x8), 0))) else (if x1 < 0 then (some (wrap64 (-x8), 0)) else (some (x8, 0)))
end
def fleuronref02_Arg.f (k : Nat) (a0 : Int) (a1 : Int) : Option (Int × Int) := (fleuronref02_is.f k (([a0, a1] : List Int))).bind fun t337 => (if t337 = true then (if a0 = 0 then (fleuronref02_Arg.j0 k a0 a1 (a1 == 0)) else (fleuronref02_Arg.j0 k a0 a1 false)) else (some (0, 2)))
theorem fleuronref02_Arg.mono_l : ∀ k, (∀ y0 y1 y2, LeO (fleuronref02_Arg.j0 k y0 y1 y2) (fleuronref02_Arg.j0 (k + 1) y0 y1 y2)) ∧ (∀ y0 y1 y2, LeO (fleuronref02_Arg.j1 k y0 y1 y2) (fleuronref02_Arg.j1 (k + 1) y0 y1 y2))
  | 0 => ⟨fun _ _ _ r h => by simp [fleuronref02_Arg.j0] at h, fun _ _ _ r h => by simp [fleuronref02_Arg.j1] at h⟩
  | k + 1 => by
    obtain ⟨ih0, ih1⟩ := fleuronref02_Arg.mono_l k
    refine ⟨?_, ?_⟩
    · intro y0 y1 y2
      unfold fleuronref02_Arg.j0
      repeat' first
      | (with_reducible exact ih0 _ _ _)
      | (with_reducible exact ih1 _ _ _)
      | (with_reducible exact fleuronref02_first.mono _ _ _)
      | (with_reducible exact fleuronref02_is.mono _ _)
      | (with_reducible exact LeO.refl _)
      | (with_reducible exact LeO.none _)
      | (with_reducible refine LeO.ite ?_ ?_)
      | (with_reducible refine LeO.bind ?_ (fun _ => ?_))
      | exact ih0 _ _ _
      | exact ih1 _ _ _
      | exact fleuronref02_first.mono _ _ _
      | exact fleuronref02_is.mono _ _
      | exact LeO.none _
      | refine LeO.ite ?_ ?_
      | refine LeO.bind ?_ (fun _ => ?_)
    · intro y0 y1 y2
      unfold fleuronref02_Arg.j1
      repeat' first
      | (with_reducible exact ih0 _ _ _)
      | (with_reducible exact ih1 _ _ _)
      | (with_reducible exact fleuronref02_first.mono _ _ _)
      | (with_reducible exact fleuronref02_is.mono _ _)
      | (with_reducible exact LeO.refl _)
      | (with_reducible exact LeO.none _)
      | (with_reducible refine LeO.ite ?_ ?_)
      | (with_reducible refine LeO.bind ?_ (fun _ => ?_))
      | exact ih0 _ _ _
      | exact ih1 _ _ _
      | exact fleuronref02_first.mono _ _ _
      | exact fleuronref02_is.mono _ _
      | exact LeO.none _
      | refine LeO.ite ?_ ?_
      | refine LeO.bind ?_ (fun _ => ?_)
theorem fleuronref02_Arg.mono : ∀ a0 a1 k, LeO (fleuronref02_Arg.f k a0 a1) (fleuronref02_Arg.f (k + 1) a0 a1) := by
  intro a0 a1 k
  obtain ⟨ih0, ih1⟩ := fleuronref02_Arg.mono_l k
  unfold fleuronref02_Arg.f
  repeat' first
      | (with_reducible exact ih0 _ _ _)
      | (with_reducible exact ih1 _ _ _)
      | (with_reducible exact fleuronref02_first.mono _ _ _)
      | (with_reducible exact fleuronref02_is.mono _ _)
      | (with_reducible exact LeO.refl _)
      | (with_reducible exact LeO.none _)
      | (with_reducible refine LeO.ite ?_ ?_)
      | (with_reducible refine LeO.bind ?_ (fun _ => ?_))
      | exact ih0 _ _ _
      | exact ih1 _ _ _
      | exact fleuronref02_first.mono _ _ _
      | exact fleuronref02_is.mono _ _
      | exact LeO.none _
      | refine LeO.ite ?_ ?_
      | refine LeO.bind ?_ (fun _ => ?_)
set_option maxHeartbeats 8000000 in
set_option maxRecDepth 100000 in
theorem fleuronref02_Arg.calls (k : Nat) (a0 : Int) (a1 : Int) (r1 : Int) (r2 : Int) (w : World) (h : fleuronref02_Arg.f k a0 a1 = some (r1, r2)) :
    Calls Tryz.prog 25 #[.int .i64 a0, .int .i64 a1] w fun e w' => e = .returned (.tuple #[.int .i64 r1, .int .i64 r2]) ∧ Below w.heap.size w w' := by
  have HB := Aside0.mk (Below.refl w.heap.size w)
  have H : ((fleuronref02_is.f k (([a0, a1] : List Int))).bind fun t337 => (if t337 = true then (if a0 = 0 then (fleuronref02_Arg.j0 k a0 a1 (a1 == 0)) else (fleuronref02_Arg.j0 k a0 a1 false)) else (some (0, 2)))) = some (r1, r2) := h
  clear h
  obtain ⟨y334, hy334⟩ : ∃ y_ : List Int, y_ = (([a0, a1] : List Int)) := ⟨_, rfl⟩
  replace H : ((fleuronref02_is.f k y334).bind fun t337 => (if t337 = true then (if a0 = 0 then (fleuronref02_Arg.j0 k a0 a1 (a1 == 0)) else (fleuronref02_Arg.j0 k a0 a1 false)) else (some (0, 2)))) = some (r1, r2) := by first | (rw [hy334]; with_reducible exact H) | (have H2_ := (Option.bind_some _ _).symm.trans H; rw [hy334]; with_reducible exact H2_) | (have H2_ := (Option.bind_some _ _).symm.trans H; with_reducible exact H2_) | with_reducible exact H | (rw [hy334]; exact H) | exact H
  have Ny334 := Aside0.mk hy334
  clear hy334
  replace H := Option.bind_eq_some_iff.mp H
  obtain ⟨t337, A30, H⟩ := H
  replace H : (if t337 = true then (if a0 = 0 then (fleuronref02_Arg.j0 k a0 a1 (a1 == 0)) else (fleuronref02_Arg.j0 k a0 a1 false)) else (some (0, 2))) = some (r1, r2) := H
  have A3 := Aside0.mk A30
  clear A30
  by_cases c4 : t337 = true
  · subst c4
    have H1 : (if a0 = 0 then (fleuronref02_Arg.j0 k a0 a1 (a1 == 0)) else (fleuronref02_Arg.j0 k a0 a1 false)) = some (r1, r2) := by rw [if_pos rfl] at H; exact H
    clear H
    have H := H1
    clear H1
    have HC5 := Aside0.mk H
    clear H
    go_enter Tryz.func25, Tryz.ntmps25
    go_upto_region 3 with (first | ((with_reducible refine gate_dst (N := 11) rfl ?_); refine Kd.R_lit (Kd.int .i64) _ 3 ?hg (N := 11) ?hd (xs := ([a0, a1] : List Int)) (inner := [.int .i64 a0, .int .i64 a1]) (ok := fun _ => True) (okp := fun _ => True) ?hr ?hp (fun _ hk => hk) trivial (Below.refl _ _) (Nat.le_refl _) (by simp) ?_; (case hd => rfl); (case hg => rfl); (case hr => first | (go_simp; done) | (go_simp; rfl)); (case hp => exact (Reps.one (show Kd.M (Kd.int .i64) _ _ _ a0 [.int .i64 a0] from rfl) (Reps.one (show Kd.M (Kd.int .i64) _ _ _ a1 [.int .i64 a1] from rfl) (Reps.none _ _)))); intro v335 w6 ho7 hb hg_ hnew_; clear hg_ hnew_; (first | rw [← Ny334.out] at ho7 | (simp only [Int.reduceToNat] at ho7; rw [← Ny334.out] at ho7)); have n0_ := Aside0.mk (Kd.R_lower ho7 (below_size (by repeat (first | (with_reducible first | exact HB.out | apply below_alloc | apply pw_below_drewN | apply below_drew1) | exact HB.out)))); have n1_ := Aside0.mk (below_step (by repeat (first | (with_reducible first | exact HB.out | apply below_alloc | apply pw_below_drewN | apply below_drew1) | exact HB.out)) hb); clear HB; have HO336 := n0_; have HB := n1_; clear n0_ n1_; clear hb ho7; obtain ⟨Ao8, co8, eo8⟩ := Kd.R_slice HO336.out; subst eo8) | ((with_reducible refine gate_callee (f := 33) rfl ?_); refine goesL_ (some 12) rfl rfl Tryz.func33 (by kernel_rfl) rfl #[.slice Ao8 y334.length co8] rfl (by (try simp only [List.map_toArray, List.map_cons, List.map_nil]); first | done | rfl | (simp only [List.length_drop, List.length_take]; rfl)) ?_; (with_reducible refine (fleuronref02_is.calls k _ _ y334 true _ ?side1 ?side2 A3.out).mono ?_); (case side1 => repeat (first | exact (Kd.R_reads' HO336.out).2.2 | (with_reducible refine Kd.C_alloc ?_ _) | (with_reducible refine Kd.C_drewN ?_ _) | (with_reducible refine Kd.C_drew ?_))); (case side2 => exact (Kd.R_reads' HO336.out).2.1); rintro e w' ⟨rfl, ⟨nd, rfl⟩⟩; refine ⟨_, rfl, ?_⟩))
    (try simp only [Act.put, List.setIfInBounds_toArray, List.set_cons_zero, List.set_cons_succ])
    go_cut [19] (fun v19 wc => ∃ (kq : Nat) (x19_4 : Bool), v19 = .bool x19_4 ∧ Aside0 (fleuronref02_Arg.j0 kq a0 a1 x19_4 = some (r1, r2)) ∧ Aside0 (kq ≤ k) ∧ Aside0 (Below w.heap.size w wc))
    case first =>
      have H := HC5.out
      clear HC5
      by_cases c9 : a0 = 0
      · rw [if_pos c9] at H
        have c9b0 : (a0 == 0) = true := beq_iff_eq.mpr c9
        have c9b1 : (a0 != 0) = false := bne_eq_false_iff_eq.mpr c9
        clear c9
        (first | rw [c9b0] | (simp only [i64_w, i32_w]; rw [c9b0]) | skip)
        have H' := Aside0.mk H
        clear H
        go_wp2
        go_meet
        case rel => exact ⟨_, ((a1 == 0)), (by first | rfl | (simp; done) | (simp [*]; done)), H', ⟨by first | omega | exact Nat.le_refl _⟩, ⟨by repeat (first | (with_reducible first | exact HB.out | apply below_alloc | apply pw_below_drewN | apply below_drew1) | exact HB.out)⟩⟩
      · rw [if_neg c9] at H
        have c9b0 : (a0 == 0) = false := beq_eq_false_iff_ne.mpr c9
        have c9b1 : (a0 != 0) = true := bne_iff_ne.mpr c9
        (first | rw [c9b0] | (simp only [i64_w, i32_w]; rw [c9b0]) | skip)
        have H' := Aside0.mk H
        clear H
        go_wp2
        go_meet
        case rel => exact ⟨_, (false), (by first | rfl | (simp; done) | (simp [*]; done)), H', ⟨by first | omega | exact Nat.le_refl _⟩, ⟨by repeat (first | (with_reducible first | exact HB.out | apply below_alloc | apply pw_below_drewN | apply below_drew1) | exact HB.out)⟩⟩
    case rest =>
      clear HC5
      try clear c2
      try clear p2
      try clear c3
      try clear c4
      try clear c9
      try clear c9b0
      try clear c9b1
      obtain ⟨kq, x19_4, rfl, HA, HJ4, HB⟩ := hcut
      cases kq with
      | zero => exact absurd HA.out (by simp [fleuronref02_Arg.j0])
      | succ kj4 =>
        have H := HA.out
        clear HA
        simp only [fleuronref02_Arg.j0] at H
        by_cases c10 : x19_4 = true
        · subst c10
          have H1 : (some (0, 18)) = some (r1, r2) := by rw [if_pos rfl] at H; exact H
          clear H
          have H := H1
          clear H1
          simp only [Option.some.injEq, Prod.mk.injEq] at H
          obtain ⟨rfl, rfl⟩ := H
          go_wp2
          go_ret2
          exact ⟨by first | rfl | (simp [errW_none, errW_some] <;> rfl) | (simp [*, errW_none, errW_some] <;> rfl), by repeat (first | (with_reducible first | exact HB.out | apply below_alloc | apply pw_below_drewN | apply below_drew1) | exact HB.out)⟩
        · replace c10 := Bool.eq_false_iff.mpr c10
          subst c10
          have H1 : ((fleuronref02_first.f kj4 (mx (mx a0 (wrap64 (-a0))) (mx a1 (wrap64 (-a1)))) (mn (mx a0 (wrap64 (-a0))) (mx a1 (wrap64 (-a1))))).bind fun t338 => (if (mx a1 (wrap64 (-a1))) > (mx a0 (wrap64 (-a0))) then (fleuronref02_Arg.j1 kj4 a0 a1 (wrap64 (94371840 - t338))) else (fleuronref02_Arg.j1 kj4 a0 a1 t338))) = some (r1, r2) := by rw [if_neg (show ¬ (false = true) by decide)] at H; exact H
          clear H
          have H := H1
          clear H1
          obtain ⟨ji11, hji11⟩ : ∃ j_ : Int, (mx a0 (wrap64 (-a0))) = j_ := ⟨_, rfl⟩
          replace H : ((fleuronref02_first.f kj4 (mx (ji11) (mx a1 (wrap64 (-a1)))) (mn (ji11) (mx a1 (wrap64 (-a1))))).bind fun t338 => (if (mx a1 (wrap64 (-a1))) > (ji11) then (fleuronref02_Arg.j1 kj4 a0 a1 (wrap64 (94371840 - t338))) else (fleuronref02_Arg.j1 kj4 a0 a1 t338))) = some (r1, r2) := by first | (rw [hji11] at H; exact H) | (simp only [hji11] at H ⊢; exact H)
          have hji11_ : (if a0 < (wrap64 (-a0)) then (wrap64 (-a0)) else a0) = ji11 := hji11
          obtain ⟨ji12, hji12⟩ : ∃ j_ : Int, (mx a1 (wrap64 (-a1))) = j_ := ⟨_, rfl⟩
          replace H : ((fleuronref02_first.f kj4 (mx (ji11) (ji12)) (mn (ji11) (ji12))).bind fun t338 => (if (ji12) > (ji11) then (fleuronref02_Arg.j1 kj4 a0 a1 (wrap64 (94371840 - t338))) else (fleuronref02_Arg.j1 kj4 a0 a1 t338))) = some (r1, r2) := by first | (rw [hji12] at H; exact H) | (simp only [hji12] at H ⊢; exact H)
          have hji12_ : (if a1 < (wrap64 (-a1)) then (wrap64 (-a1)) else a1) = ji12 := hji12
          obtain ⟨ji13, hji13⟩ : ∃ j_ : Int, (mx (ji11) (ji12)) = j_ := ⟨_, rfl⟩
          replace H : ((fleuronref02_first.f kj4 (ji13) (mn (ji11) (ji12))).bind fun t338 => (if (ji12) > (ji11) then (fleuronref02_Arg.j1 kj4 a0 a1 (wrap64 (94371840 - t338))) else (fleuronref02_Arg.j1 kj4 a0 a1 t338))) = some (r1, r2) := by first | (rw [hji13] at H; exact H) | (simp only [hji13] at H ⊢; exact H)
          have hji13_ : (if (ji11) < (ji12) then (ji12) else (ji11)) = ji13 := hji13
          obtain ⟨ji14, hji14⟩ : ∃ j_ : Int, (mn (ji11) (ji12)) = j_ := ⟨_, rfl⟩
          replace H : ((fleuronref02_first.f kj4 (ji13) (ji14)).bind fun t338 => (if (ji12) > (ji11) then (fleuronref02_Arg.j1 kj4 a0 a1 (wrap64 (94371840 - t338))) else (fleuronref02_Arg.j1 kj4 a0 a1 t338))) = some (r1, r2) := by first | (rw [hji14] at H; exact H) | (simp only [hji14] at H ⊢; exact H)
          have hji14_ : (if (ji12) < (ji11) then (ji12) else (ji11)) = ji14 := hji14
          replace H := Option.bind_eq_some_iff.mp H
          obtain ⟨t338, A150, H⟩ := H
          replace H : (if (ji12) > (ji11) then (fleuronref02_Arg.j1 kj4 a0 a1 (wrap64 (94371840 - t338))) else (fleuronref02_Arg.j1 kj4 a0 a1 t338)) = some (r1, r2) := H
          have A15 := Aside0.mk A150
          clear A150
          have HC16 := Aside0.mk H
          clear H
          go_upto_if 37 with (first | ((with_reducible refine gate_callee (f := 43) rfl ?_); refine goesL_ (some 34) rfl rfl Tryz.func43 (by kernel_rfl) rfl #[.int .i64 ji13, .int .i64 ji14] rfl (by (try simp only [List.map_toArray, List.map_cons, List.map_nil]); first | done | (simp only [hji13, hji14]; rfl) | rfl | (simp only [List.length_drop, List.length_take]; rfl)) ?_; (with_reducible refine (fleuronref02_first.calls kj4 ji13 ji14 t338 _ A15.out).mono ?_); rintro e w' ⟨rfl, ⟨nd, rfl⟩⟩; refine ⟨_, rfl, ?_⟩))
          (try simp only [Act.put, List.setIfInBounds_toArray, List.set_cons_zero, List.set_cons_succ])
          go_cut [8] (fun v8 wc => ∃ (kq : Nat) (x8_15 : Int), v8 = .int .i64 x8_15 ∧ Aside0 (fleuronref02_Arg.j1 kq a0 a1 x8_15 = some (r1, r2)) ∧ Aside0 (kq ≤ kj4) ∧ Aside0 (Below w.heap.size w wc))
          case first =>
            have H := HC16.out
            clear HC16
            by_cases c17 : (ji12) > (ji11)
            · rw [if_pos c17] at H
              have c17b0 : decide ((ji11) < (ji12)) = true := decide_eq_true c17
              clear c17
              (first | rw [c17b0] | (simp only [i64_w, i32_w]; rw [c17b0]) | skip)
              have H' := Aside0.mk H
              clear H
              go_wp2
              go_meet
              case rel => exact ⟨_, (wrap64 (94371840 - t338)), (by first | rfl | (simp; done) | (simp [*]; done)), H', ⟨by have := HJ4.out; first | omega | exact Nat.le_refl _⟩, ⟨by repeat (first | (with_reducible first | exact HB.out | apply below_alloc | apply pw_below_drewN | apply below_drew1) | exact HB.out)⟩⟩
            · rw [if_neg c17] at H
              have c17b0 : decide ((ji11) < (ji12)) = false := decide_eq_false c17
              clear c17
              (first | rw [c17b0] | (simp only [i64_w, i32_w]; rw [c17b0]) | skip)
              have H' := Aside0.mk H
              clear H
              go_wp2
              go_meet
              case rel => exact ⟨_, (t338), (by first | rfl | (simp; done) | (simp [*]; done)), H', ⟨by have := HJ4.out; first | omega | exact Nat.le_refl _⟩, ⟨by repeat (first | (with_reducible first | exact HB.out | apply below_alloc | apply pw_below_drewN | apply below_drew1) | exact HB.out)⟩⟩
          case rest =>
            clear HC16
            try clear c1
            try clear c2
            try clear p2
            try clear c3
            try clear c4
            try clear p6
            try clear c9
            try clear c9b0
            try clear c9b1
            try clear c10
            try clear c17
            try clear c17b0
            try clear p2
            obtain ⟨kq, x8_15, rfl, HA, HJ15, HB⟩ := hcut
            cases kq with
            | zero => exact absurd HA.out (by simp [fleuronref02_Arg.j1])
            | succ kj15 =>
              have H := HA.out
              clear HA
              simp only [fleuronref02_Arg.j1] at H
              by_cases c18 : a0 < 0
              · rw [if_pos c18] at H
                have c18b0 : decide (a0 < 0) = true := decide_eq_true c18
                clear c18
                by_cases c19 : a1 < 0
                · rw [if_pos c19] at H
                  have c19b0 : decide (a1 < 0) = true := decide_eq_true c19
                  clear c19
                  simp only [Option.some.injEq, Prod.mk.injEq] at H
                  obtain ⟨rfl, rfl⟩ := H
                  go_wp2
                  go_ret2
                  exact ⟨by first | rfl | (simp [errW_none, errW_some] <;> rfl) | (simp only [← hji11, ← hji12, ← hji13, ← hji14]; first | rfl | (simp [errW_none, errW_some] <;> rfl)) | (simp [*, errW_none, errW_some] <;> rfl), by repeat (first | (with_reducible first | exact HB.out | apply below_alloc | apply pw_below_drewN | apply below_drew1) | exact HB.out)⟩
                · rw [if_neg c19] at H
                  have c19b0 : decide (a1 < 0) = false := decide_eq_false c19
                  clear c19
                  simp only [Option.some.injEq, Prod.mk.injEq] at H
                  obtain ⟨rfl, rfl⟩ := H
                  go_wp2
                  go_ret2
                  exact ⟨by first | rfl | (simp [errW_none, errW_some] <;> rfl) | (simp only [← hji11, ← hji12, ← hji13, ← hji14]; first | rfl | (simp [errW_none, errW_some] <;> rfl)) | (simp [*, errW_none, errW_some] <;> rfl), by repeat (first | (with_reducible first | exact HB.out | apply below_alloc | apply pw_below_drewN | apply below_drew1) | exact HB.out)⟩
              · rw [if_neg c18] at H
                have c18b0 : decide (a0 < 0) = false := decide_eq_false c18
                clear c18
                by_cases c20 : a1 < 0
                · rw [if_pos c20] at H
                  have c20b0 : decide (a1 < 0) = true := decide_eq_true c20
                  clear c20
                  simp only [Option.some.injEq, Prod.mk.injEq] at H
                  obtain ⟨rfl, rfl⟩ := H
                  go_wp2
                  go_ret2
                  exact ⟨by first | rfl | (simp [errW_none, errW_some] <;> rfl) | (simp only [← hji11, ← hji12, ← hji13, ← hji14]; first | rfl | (simp [errW_none, errW_some] <;> rfl)) | (simp [*, errW_none, errW_some] <;> rfl), by repeat (first | (with_reducible first | exact HB.out | apply below_alloc | apply pw_below_drewN | apply below_drew1) | exact HB.out)⟩
                · rw [if_neg c20] at H
                  have c20b0 : decide (a1 < 0) = false := decide_eq_false c20
                  clear c20
                  simp only [Option.some.injEq, Prod.mk.injEq] at H
                  obtain ⟨rfl, rfl⟩ := H
                  go_wp2
                  go_ret2
                  exact ⟨by first | rfl | (simp [errW_none, errW_some] <;> rfl) | (simp only [← hji11, ← hji12, ← hji13, ← hji14]; first | rfl | (simp [errW_none, errW_some] <;> rfl)) | (simp [*, errW_none, errW_some] <;> rfl), by repeat (first | (with_reducible first | exact HB.out | apply below_alloc | apply pw_below_drewN | apply below_drew1) | exact HB.out)⟩
  · replace c4 := Bool.eq_false_iff.mpr c4
    subst c4
    have H1 : (some (0, 2)) = some (r1, r2) := by rw [if_neg (show ¬ (false = true) by decide)] at H; exact H
    clear H
    have H := H1
    clear H1
    simp only [Option.some.injEq, Prod.mk.injEq] at H
    obtain ⟨rfl, rfl⟩ := H
    go_enter Tryz.func25, Tryz.ntmps25
    go_wp2_with (first | ((with_reducible refine gate_dst (N := 11) rfl ?_); refine Kd.R_lit (Kd.int .i64) _ 3 ?hg (N := 11) ?hd (xs := ([a0, a1] : List Int)) (inner := [.int .i64 a0, .int .i64 a1]) (ok := fun _ => True) (okp := fun _ => True) ?hr ?hp (fun _ hk => hk) trivial (Below.refl _ _) (Nat.le_refl _) (by simp) ?_; (case hd => rfl); (case hg => rfl); (case hr => first | (go_simp; done) | (go_simp; rfl)); (case hp => exact (Reps.one (show Kd.M (Kd.int .i64) _ _ _ a0 [.int .i64 a0] from rfl) (Reps.one (show Kd.M (Kd.int .i64) _ _ _ a1 [.int .i64 a1] from rfl) (Reps.none _ _)))); intro v335 w21 ho22 hb hg_ hnew_; clear hg_ hnew_; (first | rw [← Ny334.out] at ho22 | (simp only [Int.reduceToNat] at ho22; rw [← Ny334.out] at ho22)); have n0_ := Aside0.mk (Kd.R_lower ho22 (below_size (by repeat (first | (with_reducible first | exact HB.out | apply below_alloc | apply pw_below_drewN | apply below_drew1) | exact HB.out)))); have n1_ := Aside0.mk (below_step (by repeat (first | (with_reducible first | exact HB.out | apply below_alloc | apply pw_below_drewN | apply below_drew1) | exact HB.out)) hb); clear HB; have HO336 := n0_; have HB := n1_; clear n0_ n1_; clear hb ho22; obtain ⟨Ao23, co23, eo23⟩ := Kd.R_slice HO336.out; subst eo23) | ((with_reducible refine gate_callee (f := 33) rfl ?_); refine goesL_ (some 12) rfl rfl Tryz.func33 (by kernel_rfl) rfl #[.slice Ao23 y334.length co23] rfl (by (try simp only [List.map_toArray, List.map_cons, List.map_nil]); first | done | rfl | (simp only [List.length_drop, List.length_take]; rfl)) ?_; (with_reducible refine (fleuronref02_is.calls k _ _ y334 false _ ?side1 ?side2 A3.out).mono ?_); (case side1 => repeat (first | exact (Kd.R_reads' HO336.out).2.2 | (with_reducible refine Kd.C_alloc ?_ _) | (with_reducible refine Kd.C_drewN ?_ _) | (with_reducible refine Kd.C_drew ?_))); (case side2 => exact (Kd.R_reads' HO336.out).2.1); rintro e w' ⟨rfl, ⟨nd, rfl⟩⟩; refine ⟨_, rfl, ?_⟩))
    go_ret2
    exact ⟨by first | rfl | (simp [errW_none, errW_some] <;> rfl) | (simp [*, errW_none, errW_some] <;> rfl), by repeat (first | (with_reducible first | exact HB.out | apply below_alloc | apply pw_below_drewN | apply below_drew1) | exact HB.out)⟩

/-! ### fleuronlaw02_FixArgs: function 7 -/
def fleuronlaw02_FixArgs.f (k : Nat) (a0 : Int) (a1 : Int) : Option (Bool) := (fix_Arg.f k a0 a1).bind fun bt339 => ((fleuronref02_Arg.f k a0 a1).bind fun bt341 => (if bt339.1 = bt341.1 then (if bt339.2 = bt341.2 then ((fleuronlaw02_awake.f k).bind fun t343 => (some t343)) else (some false)) else (some false)))
theorem fleuronlaw02_FixArgs.mono : ∀ a0 a1 k, LeO (fleuronlaw02_FixArgs.f k a0 a1) (fleuronlaw02_FixArgs.f (k + 1) a0 a1) := by
  intro a0 a1 k
  unfold fleuronlaw02_FixArgs.f
  repeat' first
      | (with_reducible exact fix_Arg.mono _ _ _)
      | (with_reducible exact fleuronlaw02_awake.mono _)
      | (with_reducible exact fleuronref02_Arg.mono _ _ _)
      | (with_reducible exact LeO.refl _)
      | (with_reducible exact LeO.none _)
      | (with_reducible refine LeO.ite ?_ ?_)
      | (with_reducible refine LeO.bind ?_ (fun _ => ?_))
      | exact fix_Arg.mono _ _ _
      | exact fleuronlaw02_awake.mono _
      | exact fleuronref02_Arg.mono _ _ _
      | exact LeO.none _
      | refine LeO.ite ?_ ?_
      | refine LeO.bind ?_ (fun _ => ?_)
set_option maxHeartbeats 8000000 in
set_option maxRecDepth 100000 in
theorem fleuronlaw02_FixArgs.callsT (k : Nat) (a0 : Int) (a1 : Int) (w : World) (ht_ : LaidOK w) (h : fleuronlaw02_FixArgs.f k a0 a1 = some true) :
    Calls Tryz.prog 7 #[.int .i64 a0, .int .i64 a1] w fun e w' => e = .returned (.bool true) ∧ Below w.heap.size w w' := by
  have HB := Aside0.mk (Below.refl w.heap.size w)
  have HT_ := Aside0.mk ht_
  clear ht_
  have H : ((fix_Arg.f k a0 a1).bind fun bt339 => ((fleuronref02_Arg.f k a0 a1).bind fun bt341 => (if bt339.1 = bt341.1 then (if bt339.2 = bt341.2 then ((fleuronlaw02_awake.f k).bind fun t343 => (some t343)) else (some false)) else (some false)))) = some true := h
  clear h
  replace H := Option.bind_eq_some_iff.mp H
  obtain ⟨⟨t339, t340⟩, A30, H⟩ := H
  replace H : ((fleuronref02_Arg.f k a0 a1).bind fun bt341 => (if t339 = bt341.1 then (if t340 = bt341.2 then ((fleuronlaw02_awake.f k).bind fun t343 => (some t343)) else (some false)) else (some false))) = some true := H
  have A3 := Aside0.mk A30
  clear A30
  replace H := Option.bind_eq_some_iff.mp H
  obtain ⟨⟨t341, t342⟩, A40, H⟩ := H
  replace H : (if t339 = t341 then (if t340 = t342 then ((fleuronlaw02_awake.f k).bind fun t343 => (some t343)) else (some false)) else (some false)) = some true := H
  have A4 := Aside0.mk A40
  clear A40
  by_cases c5 : t339 = t341
  · rw [if_pos c5] at H
    have c5b0 : (t339 == t341) = true := beq_iff_eq.mpr c5
    have c5b1 : (t339 != t341) = false := bne_eq_false_iff_eq.mpr c5
    clear c5
    by_cases c6 : t340 = t342
    · rw [if_pos c6] at H
      have c6b0 : (t340 == t342) = true := beq_iff_eq.mpr c6
      have c6b1 : (t340 != t342) = false := bne_eq_false_iff_eq.mpr c6
      clear c6
      replace H := Option.bind_eq_some_iff.mp H
      obtain ⟨t343, A70, H⟩ := H
      replace H : (some t343) = some true := H
      have A7 := Aside0.mk A70
      clear A70
      have hr_ := Option.some.inj H
      clear H
      go_enter Tryz.func7, Tryz.ntmps7
      go_wp2_with (first | ((with_reducible refine gate_callee (f := 24) rfl ?_); refine goesL_ (some 12) rfl rfl Tryz.func24 (by kernel_rfl) rfl #[.int .i64 a0, .int .i64 a1] rfl (by (try simp only [List.map_toArray, List.map_cons, List.map_nil]); first | done | rfl | (simp only [List.length_drop, List.length_take]; rfl)) ?_; (with_reducible refine (fix_Arg.calls k a0 a1 t339 t340 _ A3.out).mono ?_); rintro e w8 ⟨rfl, hb⟩; refine ⟨_, rfl, ?_⟩; have n0_ := Aside0.mk (below_step (by repeat (first | (with_reducible first | exact HB.out | apply below_alloc | apply pw_below_drewN | apply below_drew1) | exact HB.out)) hb); clear HB; have HB := n0_; clear n0_; (try clear hb); (try clear hb2); (try clear hk); (try clear hi)) | ((with_reducible refine gate_callee (f := 25) rfl ?_); refine goesL_ (some 18) rfl rfl Tryz.func25 (by kernel_rfl) rfl #[.int .i64 a0, .int .i64 a1] rfl (by (try simp only [List.map_toArray, List.map_cons, List.map_nil]); first | done | rfl | (simp only [List.length_drop, List.length_take]; rfl)) ?_; (with_reducible refine (fleuronref02_Arg.calls k a0 a1 t341 t342 _ A4.out).mono ?_); rintro e w9 ⟨rfl, hb⟩; refine ⟨_, rfl, ?_⟩; have n0_ := Aside0.mk (below_step (by repeat (first | (with_reducible first | exact HB.out | apply below_alloc | apply pw_below_drewN | apply below_drew1) | exact HB.out)) hb); clear HB; have HB := n0_; clear n0_; (try clear hb); (try clear hb2); (try clear hk); (try clear hi)) | (go_at_call 13; (with_reducible refine (fleuronlaw02_awake.callsT k   _ ?side1 (Aside0.mk (by have z_ := A7.out; rw [show t343 = true by assumption] at z_; exact z_)).out).mono ?_); (case side1 => exact LaidOK.below HT_.out (by repeat (first | (with_reducible first | exact HB.out | apply below_alloc | apply pw_below_drewN | apply below_drew1) | exact HB.out))); rintro e w10 ⟨rfl, hb⟩; have n0_ := Aside0.mk (below_step (by repeat (first | (with_reducible first | exact HB.out | apply below_alloc | apply pw_below_drewN | apply below_drew1) | exact HB.out)) hb); clear HB; have HB := n0_; clear n0_; (try clear hb); (try clear hb2); (try clear hk); (try clear hi)))
      go_ret
      exact ⟨by first | rfl | (simp [errW_none, errW_some] <;> rfl) | (simp [*, errW_none, errW_some] <;> rfl), by repeat (first | (with_reducible first | exact HB.out | apply below_alloc | apply pw_below_drewN | apply below_drew1) | exact HB.out)⟩
    · rw [if_neg c6] at H
      have c6b0 : (t340 == t342) = false := beq_eq_false_iff_ne.mpr c6
      have c6b1 : (t340 != t342) = true := bne_iff_ne.mpr c6
      exact absurd H (by simp)
  · rw [if_neg c5] at H
    have c5b0 : (t339 == t341) = false := beq_eq_false_iff_ne.mpr c5
    have c5b1 : (t339 != t341) = true := bne_iff_ne.mpr c5
    exact absurd H (by simp)

/-- THE ONE PURE STATEMENT of fleuronlaw02_FixArgs: yours. -/
def fleuronlaw02_FixArgs.Pure : Prop := ∀ (a0 : Int) (a1 : Int), (Lit.int .i64 a0).wf = true → (Lit.int .i64 a1).wf = true → ∃ k, fleuronlaw02_FixArgs.f k a0 a1 = some true
theorem fleuronlaw02_FixArgs.walk (P : fleuronlaw02_FixArgs.Pure) (a0 : Int) (a1 : Int) (w : World) (w0 : (Lit.int .i64 a0).wf = true) (w1 : (Lit.int .i64 a1).wf = true) (ht_ : LaidOK w) :
    Calls Tryz.prog 7 #[.int .i64 a0, .int .i64 a1] w fun e w' => e = .returned (.bool true) ∧ Below w.heap.size w w' := by
  obtain ⟨k, h⟩ := P a0 a1 w0 w1
  refine (fleuronlaw02_FixArgs.callsT k a0 a1 w ht_ h).mono ?_
  rintro e w' ⟨rfl, hd⟩
  exact ⟨rfl, hd⟩

/-! ### fleuronref02_digits: function 47 -/
def fleuronref02_digits.l0 : Nat → Int → Int → ByteArray → Option (ByteArray)
  | 0, _, _, _ => none
  | k + 1, x0, x1, x5 => if x0 > 0 then (if (Utf8.encode (wrap32 (wrap64 (48 + (Int.tmod x0 10))))).size + x5.size ≤ 9223372036854775807 then (fleuronref02_digits.l0 k (wrap64 (Int.tdiv x0 10)) x1 ((Utf8.encode (wrap32 (wrap64 (48 + (Int.tmod x0 10))))) ++ x5)) else (none)) else (if (x5.size : Int) < x1 then (if (Utf8.encode (wrap32 (wrap64 (48 + (Int.tmod x0 10))))).size + x5.size ≤ 9223372036854775807 then (fleuronref02_digits.l0 k (wrap64 (Int.tdiv x0 10)) x1 ((Utf8.encode (wrap32 (wrap64 (48 + (Int.tmod x0 10))))) ++ x5)) else (none)) else (some x5))
def fleuronref02_digits.f (k : Nat) (a0 : Int) (a1 : Int) : Option (ByteArray) := fleuronref02_digits.l0 k a0 a1 (⟨#[]⟩ : ByteArray)
theorem fleuronref02_digits.mono_l : ∀ k, (∀ y0 y1 y2, LeO (fleuronref02_digits.l0 k y0 y1 y2) (fleuronref02_digits.l0 (k + 1) y0 y1 y2))
  | 0 => fun _ _ _ r h => by simp [fleuronref02_digits.l0] at h
  | k + 1 => by
    have ih0 := fleuronref02_digits.mono_l k
    · intro y0 y1 y2
      unfold fleuronref02_digits.l0
      repeat' first
      | (with_reducible exact ih0 _ _ _)
      | (with_reducible exact LeO.refl _)
      | (with_reducible exact LeO.none _)
      | (with_reducible refine LeO.ite ?_ ?_)
      | (with_reducible refine LeO.bind ?_ (fun _ => ?_))
      | exact ih0 _ _ _
      | exact LeO.none _
      | refine LeO.ite ?_ ?_
      | refine LeO.bind ?_ (fun _ => ?_)
theorem fleuronref02_digits.mono : ∀ a0 a1 k, LeO (fleuronref02_digits.f k a0 a1) (fleuronref02_digits.f (k + 1) a0 a1) := by
  intro a0 a1 k
  have ih0 := fleuronref02_digits.mono_l k
  unfold fleuronref02_digits.f
  repeat' first
      | (with_reducible exact ih0 _ _ _)
      | (with_reducible exact LeO.refl _)
      | (with_reducible exact LeO.none _)
      | (with_reducible refine LeO.ite ?_ ?_)
      | (with_reducible refine LeO.bind ?_ (fun _ => ?_))
      | exact ih0 _ _ _
      | exact LeO.none _
      | refine LeO.ite ?_ ?_
      | refine LeO.bind ?_ (fun _ => ?_)
set_option maxHeartbeats 8000000 in
set_option maxRecDepth 100000 in
theorem fleuronref02_digits.calls (k : Nat) (a0 : Int) (a1 : Int) (r : ByteArray) (w : World) (h : fleuronref02_digits.f k a0 a1 = some r) :
    Calls Tryz.prog 47 #[.int .i64 a0, .int .i64 a1] w fun e w' => e = .returned (.string r) ∧ Drawn0 w w' := by
  have H : (fleuronref02_digits.l0 k a0 a1 (⟨#[]⟩ : ByteArray)) = some r := h
  clear h
  have H' := Aside0.mk H
  clear H
  go_enter Tryz.func47, Tryz.ntmps47
  go_wp2
  go_loopg [0, 5] k (fun kq v0 v5 w' => ∃ (x0_1 : Int) (x5_1 : ByteArray), v0 = .int .i64 x0_1 ∧ v5 = .string x5_1 ∧ Aside0 (fleuronref02_digits.l0 kq x0_1 a1 x5_1 = some r) ∧ Aside0 (kq ≤ k) ∧ Drawn0 w w')
  case atStart => exact ⟨(a0), ((⟨#[]⟩ : ByteArray)), (by first | rfl | (simp; done) | (simp [*]; done)), (by first | rfl | (simp; done) | (simp [*]; done)), H', ⟨Nat.le_refl _⟩, by repeat (first | exact Drawn0.refl _ | apply Drawn0.step)⟩
  case round =>
    clear H'
    try clear p2
    obtain ⟨x0_1, x5_1, rfl, rfl, HA, HK1, ⟨m1, rfl⟩⟩ := hrel
    cases gk with
    | zero => exact absurd HA.out (by simp [fleuronref02_digits.l0])
    | succ k1 =>
      have H := HA.out
      clear HA
      simp only [fleuronref02_digits.l0] at H
      by_cases c3 : x0_1 > 0
      · rw [if_pos c3] at H
        have c3b0 : decide (0 < x0_1) = true := decide_eq_true c3
        clear c3
        by_cases c4 : (Utf8.encode (wrap32 (wrap64 (48 + (Int.tmod x0_1 10))))).size + x5_1.size ≤ 9223372036854775807
        · rw [if_pos c4] at H
          have c4b0 := eq_true c4
          have c4b1 : decide ((Utf8.encode (wrap32 (wrap64 (48 + (Int.tmod x0_1 10))))).size + x5_1.size ≤ 9223372036854775807) = true := decide_eq_true c4
          try have c4b2 : (9223372036854775807 < (Utf8.encode (wrap32 (wrap64 (48 + (Int.tmod x0_1 10))))).size + x5_1.size) = False := eq_false (Nat.not_lt.2 c4)
          have H' := Aside0.mk H
          clear H
          go_wp2
          go_roundg k1
          case measure => have := HK1.out; omega
          case rel => exact ⟨(wrap64 (Int.tdiv x0_1 10)), ((Utf8.encode (wrap32 (wrap64 (48 + (Int.tmod x0_1 10))))) ++ x5_1), (by first | rfl | (simp; done) | (simp [*]; done)), (by first | rfl | (simp; done) | (simp [*]; done)), H', ⟨by have := HK1.out; omega⟩, by repeat (first | exact Drawn0.refl _ | apply Drawn0.step)⟩
        · rw [if_neg c4] at H
          exact absurd H (by simp)
      · rw [if_neg c3] at H
        have c3b0 : decide (0 < x0_1) = false := decide_eq_false c3
        clear c3
        by_cases c5 : (x5_1.size : Int) < a1
        · rw [if_pos c5] at H
          have c5b0 : decide ((x5_1.size : Int) < a1) = true := decide_eq_true c5
          clear c5
          by_cases c6 : (Utf8.encode (wrap32 (wrap64 (48 + (Int.tmod x0_1 10))))).size + x5_1.size ≤ 9223372036854775807
          · rw [if_pos c6] at H
            have c6b0 := eq_true c6
            have c6b1 : decide ((Utf8.encode (wrap32 (wrap64 (48 + (Int.tmod x0_1 10))))).size + x5_1.size ≤ 9223372036854775807) = true := decide_eq_true c6
            try have c6b2 : (9223372036854775807 < (Utf8.encode (wrap32 (wrap64 (48 + (Int.tmod x0_1 10))))).size + x5_1.size) = False := eq_false (Nat.not_lt.2 c6)
            have H' := Aside0.mk H
            clear H
            go_wp2
            go_roundg k1
            case measure => have := HK1.out; omega
            case rel => exact ⟨(wrap64 (Int.tdiv x0_1 10)), ((Utf8.encode (wrap32 (wrap64 (48 + (Int.tmod x0_1 10))))) ++ x5_1), (by first | rfl | (simp; done) | (simp [*]; done)), (by first | rfl | (simp; done) | (simp [*]; done)), H', ⟨by have := HK1.out; omega⟩, by repeat (first | exact Drawn0.refl _ | apply Drawn0.step)⟩
          · rw [if_neg c6] at H
            exact absurd H (by simp)
        · rw [if_neg c5] at H
          have c5b0 : decide ((x5_1.size : Int) < a1) = false := decide_eq_false c5
          clear c5
          obtain rfl := Option.some.inj H
          go_wp2
          go_ret
          exact ⟨by first | rfl | (simp; done) | (simp [*]; done), by repeat (first | exact Drawn0.refl _ | apply Drawn0.step)⟩

/-! ### fleuronref02_Text: function 27 -/
mutual
def fleuronref02_Text.j0 : Nat → Int → ByteArray → Option (ByteArray × Int)
  | 0, _, _ => none
  | k + 1, x0, x4 => (fleuronref02_digits.f k (wrap64 (Int.tdiv (mx x0 (wrap64 (-x0))) 65536)) 1).bind fun t348 => (if x4.size + t348.size ≤ 9223372036854775807 then (if (Int.tmod (mx x0 (wrap64 (-x0))) 65536) = 0 then (some (x4 ++ t348, 0)) else (fleuronref02_Text.l0 k (x4 ++ t348) (Int.tmod (mx x0 (wrap64 (-x0))) 65536) 1 10)) else (none))
def fleuronref02_Text.l0 : Nat → ByteArray → Int → Int → Int → Option (ByteArray × Int)
  | 0, _, _, _, _ => none
  | k + 1, x4, x5, x6, x7 => (fleuronref02_near.f (wrap64 ((wrap64 (-x5)) * x7)) 65536).bind fun t349 => (if (wrap64 (-t349)) < x7 then ((fleuronref02_near.f (wrap64 ((wrap64 (-t349)) * 65536)) x7).bind fun t350 => (if t350 = x5 then (if x4.size + 1 ≤ 9223372036854775807 then ((fleuronref02_digits.f k (wrap64 (-t349)) x6).bind fun t351 => (if (x4 ++ (⟨#[46]⟩ : ByteArray)).size + t351.size ≤ 9223372036854775807 then (some ((x4 ++ (⟨#[46]⟩ : ByteArray)) ++ t351, 0)) else (none))) else (none)) else (fleuronref02_Text.l0 k x4 x5 (wrap64 (x6 + 1)) (wrap64 (x7 * 10))))) else (fleuronref02_Text.l0 k x4 x5 (wrap64 (x6 + 1)) (wrap64 (x7 * 10))))
end
def fleuronref02_Text.f (k : Nat) (a0 : Int) : Option (ByteArray × Int) := (fleuronref02_is.f k (([a0] : List Int))).bind fun t347 => (if t347 = true then (if a0 < 0 then (fleuronref02_Text.j0 k a0 (⟨#[45]⟩ : ByteArray)) else (fleuronref02_Text.j0 k a0 (⟨#[]⟩ : ByteArray))) else (some ((⟨#[]⟩ : ByteArray), 2)))
theorem fleuronref02_Text.mono_l : ∀ k, (∀ y0 y1, LeO (fleuronref02_Text.j0 k y0 y1) (fleuronref02_Text.j0 (k + 1) y0 y1)) ∧ (∀ y0 y1 y2 y3, LeO (fleuronref02_Text.l0 k y0 y1 y2 y3) (fleuronref02_Text.l0 (k + 1) y0 y1 y2 y3))
  | 0 => ⟨fun _ _ r h => by simp [fleuronref02_Text.j0] at h, fun _ _ _ _ r h => by simp [fleuronref02_Text.l0] at h⟩
  | k + 1 => by
    obtain ⟨ih0, ih1⟩ := fleuronref02_Text.mono_l k
    refine ⟨?_, ?_⟩
    · intro y0 y1
      unfold fleuronref02_Text.j0
      repeat' first
      | (with_reducible exact ih0 _ _)
      | (with_reducible exact ih1 _ _ _ _)
      | (with_reducible exact fleuronref02_digits.mono _ _ _)
      | (with_reducible exact fleuronref02_is.mono _ _)
      | (with_reducible exact LeO.refl _)
      | (with_reducible exact LeO.none _)
      | (with_reducible refine LeO.ite ?_ ?_)
      | (with_reducible refine LeO.bind ?_ (fun _ => ?_))
      | exact ih0 _ _
      | exact ih1 _ _ _ _
      | exact fleuronref02_digits.mono _ _ _
      | exact fleuronref02_is.mono _ _
      | exact LeO.none _
      | refine LeO.ite ?_ ?_
      | refine LeO.bind ?_ (fun _ => ?_)
    · intro y0 y1 y2 y3
      unfold fleuronref02_Text.l0
      repeat' first
      | (with_reducible exact ih0 _ _)
      | (with_reducible exact ih1 _ _ _ _)
      | (with_reducible exact fleuronref02_digits.mono _ _ _)
      | (with_reducible exact fleuronref02_is.mono _ _)
      | (with_reducible exact LeO.refl _)
      | (with_reducible exact LeO.none _)
      | (with_reducible refine LeO.ite ?_ ?_)
      | (with_reducible refine LeO.bind ?_ (fun _ => ?_))
      | exact ih0 _ _
      | exact ih1 _ _ _ _
      | exact fleuronref02_digits.mono _ _ _
      | exact fleuronref02_is.mono _ _
      | exact LeO.none _
      | refine LeO.ite ?_ ?_
      | refine LeO.bind ?_ (fun _ => ?_)
theorem fleuronref02_Text.mono : ∀ a0 k, LeO (fleuronref02_Text.f k a0) (fleuronref02_Text.f (k + 1) a0) := by
  intro a0 k
  obtain ⟨ih0, ih1⟩ := fleuronref02_Text.mono_l k
  unfold fleuronref02_Text.f
  repeat' first
      | (with_reducible exact ih0 _ _)
      | (with_reducible exact ih1 _ _ _ _)
      | (with_reducible exact fleuronref02_digits.mono _ _ _)
      | (with_reducible exact fleuronref02_is.mono _ _)
      | (with_reducible exact LeO.refl _)
      | (with_reducible exact LeO.none _)
      | (with_reducible refine LeO.ite ?_ ?_)
      | (with_reducible refine LeO.bind ?_ (fun _ => ?_))
      | exact ih0 _ _
      | exact ih1 _ _ _ _
      | exact fleuronref02_digits.mono _ _ _
      | exact fleuronref02_is.mono _ _
      | exact LeO.none _
      | refine LeO.ite ?_ ?_
      | refine LeO.bind ?_ (fun _ => ?_)
set_option maxHeartbeats 8000000 in
set_option maxRecDepth 100000 in
theorem fleuronref02_Text.calls (k : Nat) (a0 : Int) (r1 : ByteArray) (r2 : Int) (w : World) (h : fleuronref02_Text.f k a0 = some (r1, r2)) :
    Calls Tryz.prog 27 #[.int .i64 a0] w fun e w' => e = .returned (.tuple #[.string r1, .int .i64 r2]) ∧ Below w.heap.size w w' := by
  have HB := Aside0.mk (Below.refl w.heap.size w)
  have H : ((fleuronref02_is.f k (([a0] : List Int))).bind fun t347 => (if t347 = true then (if a0 < 0 then (fleuronref02_Text.j0 k a0 (⟨#[45]⟩ : ByteArray)) else (fleuronref02_Text.j0 k a0 (⟨#[]⟩ : ByteArray))) else (some ((⟨#[]⟩ : ByteArray), 2)))) = some (r1, r2) := h
  clear h
  obtain ⟨y344, hy344⟩ : ∃ y_ : List Int, y_ = (([a0] : List Int)) := ⟨_, rfl⟩
  replace H : ((fleuronref02_is.f k y344).bind fun t347 => (if t347 = true then (if a0 < 0 then (fleuronref02_Text.j0 k a0 (⟨#[45]⟩ : ByteArray)) else (fleuronref02_Text.j0 k a0 (⟨#[]⟩ : ByteArray))) else (some ((⟨#[]⟩ : ByteArray), 2)))) = some (r1, r2) := by first | (rw [hy344]; with_reducible exact H) | (have H2_ := (Option.bind_some _ _).symm.trans H; rw [hy344]; with_reducible exact H2_) | (have H2_ := (Option.bind_some _ _).symm.trans H; with_reducible exact H2_) | with_reducible exact H | (rw [hy344]; exact H) | exact H
  have Ny344 := Aside0.mk hy344
  clear hy344
  replace H := Option.bind_eq_some_iff.mp H
  obtain ⟨t347, A20, H⟩ := H
  replace H : (if t347 = true then (if a0 < 0 then (fleuronref02_Text.j0 k a0 (⟨#[45]⟩ : ByteArray)) else (fleuronref02_Text.j0 k a0 (⟨#[]⟩ : ByteArray))) else (some ((⟨#[]⟩ : ByteArray), 2))) = some (r1, r2) := H
  have A2 := Aside0.mk A20
  clear A20
  by_cases c3 : t347 = true
  · subst c3
    have H1 : (if a0 < 0 then (fleuronref02_Text.j0 k a0 (⟨#[45]⟩ : ByteArray)) else (fleuronref02_Text.j0 k a0 (⟨#[]⟩ : ByteArray))) = some (r1, r2) := by rw [if_pos rfl] at H; exact H
    clear H
    have H := H1
    clear H1
    have HC4 := Aside0.mk H
    clear H
    go_enter Tryz.func27, Tryz.ntmps27
    go_upto_if 14 with (first | ((with_reducible refine gate_dst (N := 10) rfl ?_); refine Kd.R_lit (Kd.int .i64) _ 3 ?hg (N := 10) ?hd (xs := ([a0] : List Int)) (inner := [.int .i64 a0]) (ok := fun _ => True) (okp := fun _ => True) ?hr ?hp (fun _ hk => hk) trivial (Below.refl _ _) (Nat.le_refl _) (by simp) ?_; (case hd => rfl); (case hg => rfl); (case hr => first | (go_simp; done) | (go_simp; rfl)); (case hp => exact (Reps.one (show Kd.M (Kd.int .i64) _ _ _ a0 [.int .i64 a0] from rfl) (Reps.none _ _))); intro v345 w5 ho6 hb hg_ hnew_; clear hg_ hnew_; (first | rw [← Ny344.out] at ho6 | (simp only [Int.reduceToNat] at ho6; rw [← Ny344.out] at ho6)); have n0_ := Aside0.mk (Kd.R_lower ho6 (below_size (by repeat (first | (with_reducible first | exact HB.out | apply below_alloc | apply pw_below_drewN | apply below_drew1) | exact HB.out)))); have n1_ := Aside0.mk (below_step (by repeat (first | (with_reducible first | exact HB.out | apply below_alloc | apply pw_below_drewN | apply below_drew1) | exact HB.out)) hb); clear HB; have HO346 := n0_; have HB := n1_; clear n0_ n1_; clear hb ho6; obtain ⟨Ao7, co7, eo7⟩ := Kd.R_slice HO346.out; subst eo7) | ((with_reducible refine gate_callee (f := 33) rfl ?_); refine goesL_ (some 11) rfl rfl Tryz.func33 (by kernel_rfl) rfl #[.slice Ao7 y344.length co7] rfl (by (try simp only [List.map_toArray, List.map_cons, List.map_nil]); first | done | rfl | (simp only [List.length_drop, List.length_take]; rfl)) ?_; (with_reducible refine (fleuronref02_is.calls k _ _ y344 true _ ?side1 ?side2 A2.out).mono ?_); (case side1 => repeat (first | exact (Kd.R_reads' HO346.out).2.2 | (with_reducible refine Kd.C_alloc ?_ _) | (with_reducible refine Kd.C_drewN ?_ _) | (with_reducible refine Kd.C_drew ?_))); (case side2 => exact (Kd.R_reads' HO346.out).2.1); rintro e w' ⟨rfl, ⟨nd, rfl⟩⟩; refine ⟨_, rfl, ?_⟩))
    (try simp only [Act.put, List.setIfInBounds_toArray, List.set_cons_zero, List.set_cons_succ])
    go_cut [4] (fun v4 wc => ∃ (kq : Nat) (x4_3 : ByteArray), v4 = .string x4_3 ∧ Aside0 (fleuronref02_Text.j0 kq a0 x4_3 = some (r1, r2)) ∧ Aside0 (kq ≤ k) ∧ Aside0 (Below w.heap.size w wc))
    case first =>
      have H := HC4.out
      clear HC4
      by_cases c8 : a0 < 0
      · rw [if_pos c8] at H
        have c8b0 : decide (a0 < 0) = true := decide_eq_true c8
        clear c8
        (first | rw [c8b0] | (simp only [i64_w, i32_w]; rw [c8b0]) | skip)
        have H' := Aside0.mk H
        clear H
        go_wp2
        go_meet
        case rel => exact ⟨_, ((⟨#[45]⟩ : ByteArray)), (by first | rfl | (simp; done) | (simp [*]; done)), H', ⟨by first | omega | exact Nat.le_refl _⟩, ⟨by repeat (first | (with_reducible first | exact HB.out | apply below_alloc | apply pw_below_drewN | apply below_drew1) | exact HB.out)⟩⟩
      · rw [if_neg c8] at H
        have c8b0 : decide (a0 < 0) = false := decide_eq_false c8
        clear c8
        (first | rw [c8b0] | (simp only [i64_w, i32_w]; rw [c8b0]) | skip)
        have H' := Aside0.mk H
        clear H
        go_wp2
        go_meet
        case rel => exact ⟨_, ((⟨#[]⟩ : ByteArray)), (by first | rfl | (simp; done) | (simp [*]; done)), H', ⟨by first | omega | exact Nat.le_refl _⟩, ⟨by repeat (first | (with_reducible first | exact HB.out | apply below_alloc | apply pw_below_drewN | apply below_drew1) | exact HB.out)⟩⟩
    case rest =>
      clear HC4
      try clear c2
      try clear p2
      try clear c3
      try clear c8
      try clear c8b0
      obtain ⟨kq, x4_3, rfl, HA, HJ3, HB⟩ := hcut
      cases kq with
      | zero => exact absurd HA.out (by simp [fleuronref02_Text.j0])
      | succ kj3 =>
        have H := HA.out
        clear HA
        simp only [fleuronref02_Text.j0] at H
        obtain ⟨ji9, hji9⟩ : ∃ j_ : Int, (mx a0 (wrap64 (-a0))) = j_ := ⟨_, rfl⟩
        replace H : ((fleuronref02_digits.f kj3 (wrap64 (Int.tdiv (ji9) 65536)) 1).bind fun t348 => (if x4_3.size + t348.size ≤ 9223372036854775807 then (if (Int.tmod (ji9) 65536) = 0 then (some (x4_3 ++ t348, 0)) else (fleuronref02_Text.l0 kj3 (x4_3 ++ t348) (Int.tmod (ji9) 65536) 1 10)) else (none))) = some (r1, r2) := by first | (rw [hji9] at H; exact H) | (simp only [hji9] at H ⊢; exact H)
        have hji9_ : (if a0 < (wrap64 (-a0)) then (wrap64 (-a0)) else a0) = ji9 := hji9
        replace H := Option.bind_eq_some_iff.mp H
        obtain ⟨t348, A100, H⟩ := H
        replace H : (if x4_3.size + t348.size ≤ 9223372036854775807 then (if (Int.tmod (ji9) 65536) = 0 then (some (x4_3 ++ t348, 0)) else (fleuronref02_Text.l0 kj3 (x4_3 ++ t348) (Int.tmod (ji9) 65536) 1 10)) else (none)) = some (r1, r2) := H
        have A10 := Aside0.mk A100
        clear A100
        by_cases c11 : x4_3.size + t348.size ≤ 9223372036854775807
        · rw [if_pos c11] at H
          have c11b0 := eq_true c11
          have c11b1 : decide (x4_3.size + t348.size ≤ 9223372036854775807) = true := decide_eq_true c11
          try have c11b2 : (9223372036854775807 < x4_3.size + t348.size) = False := eq_false (Nat.not_lt.2 c11)
          by_cases c12 : (Int.tmod (ji9) 65536) = 0
          · rw [if_pos c12] at H
            have c12b0 : ((Int.tmod (ji9) 65536) == 0) = true := beq_iff_eq.mpr c12
            have c12b1 : ((Int.tmod (ji9) 65536) != 0) = false := bne_eq_false_iff_eq.mpr c12
            clear c12
            simp only [Option.some.injEq, Prod.mk.injEq] at H
            obtain ⟨rfl, rfl⟩ := H
            go_wp2_with (first | ((with_reducible refine gate_callee (f := 47) rfl ?_); refine goesL_ (some 22) rfl rfl Tryz.func47 (by kernel_rfl) rfl #[.int .i64 (wrap64 (Int.tdiv (ji9) 65536)), .int .i64 1] rfl (by (try simp only [List.map_toArray, List.map_cons, List.map_nil]); first | done | (simp only [hji9]; rfl) | rfl | (simp only [List.length_drop, List.length_take]; rfl)) ?_; (with_reducible refine (fleuronref02_digits.calls kj3 (wrap64 (Int.tdiv (ji9) 65536)) 1 t348 _ A10.out).mono ?_); rintro e w' ⟨rfl, ⟨nd, rfl⟩⟩; refine ⟨_, rfl, ?_⟩))
            go_ret2
            exact ⟨by first | rfl | (simp [errW_none, errW_some] <;> rfl) | (simp only [← hji9]; first | rfl | (simp [errW_none, errW_some] <;> rfl)) | (simp [*, errW_none, errW_some] <;> rfl), by repeat (first | (with_reducible first | exact HB.out | apply below_alloc | apply pw_below_drewN | apply below_drew1) | exact HB.out)⟩
          · rw [if_neg c12] at H
            have c12b0 : ((Int.tmod (ji9) 65536) == 0) = false := beq_eq_false_iff_ne.mpr c12
            have c12b1 : ((Int.tmod (ji9) 65536) != 0) = true := bne_iff_ne.mpr c12
            have H' := Aside0.mk H
            clear H
            go_wp2_with (first | ((with_reducible refine gate_callee (f := 47) rfl ?_); refine goesL_ (some 22) rfl rfl Tryz.func47 (by kernel_rfl) rfl #[.int .i64 (wrap64 (Int.tdiv (ji9) 65536)), .int .i64 1] rfl (by (try simp only [List.map_toArray, List.map_cons, List.map_nil]); first | done | (simp only [hji9]; rfl) | rfl | (simp only [List.length_drop, List.length_take]; rfl)) ?_; (with_reducible refine (fleuronref02_digits.calls kj3 (wrap64 (Int.tdiv (ji9) 65536)) 1 t348 _ A10.out).mono ?_); rintro e w' ⟨rfl, ⟨nd, rfl⟩⟩; refine ⟨_, rfl, ?_⟩))
            go_loopg [6, 7] kj3 (fun kq v6 v7 w' => ∃ (x6_2 : Int) (x7_2 : Int), v6 = .int .i64 x6_2 ∧ v7 = .int .i64 x7_2 ∧ Aside0 (fleuronref02_Text.l0 kq (x4_3 ++ t348) (Int.tmod (ji9) 65536) x6_2 x7_2 = some (r1, r2)) ∧ Aside0 (kq ≤ kj3) ∧ Aside0 (Below w.heap.size w w'))
            case atStart => exact ⟨(1), (10), (by first | rfl | (simp; done) | (simp [*]; done)), (by first | rfl | (simp; done) | (simp [*]; done)), H', ⟨Nat.le_refl _⟩, ⟨by repeat (first | (with_reducible first | exact HB.out | apply below_alloc | apply pw_below_drewN | apply below_drew1) | exact HB.out)⟩⟩
            case round =>
              clear H'
              try clear c1
              try clear c2
              try clear p2
              try clear c3
              try clear c4
              try clear p6
              try clear c8
              try clear c8b0
              try clear c11
              try clear c11b0
              try clear c11b1
              try clear c11b2
              try clear c12
              try clear c12b0
              try clear c12b1
              try clear p2
              obtain ⟨x6_2, x7_2, rfl, rfl, HA, HK2, HB⟩ := hrel
              cases gk with
              | zero => exact absurd HA.out (by simp [fleuronref02_Text.l0])
              | succ k2 =>
                have H := HA.out
                clear HA
                simp only [fleuronref02_Text.l0] at H
                replace H := Option.bind_eq_some_iff.mp H
                obtain ⟨t349, A130, H⟩ := H
                replace H : (if (wrap64 (-t349)) < x7_2 then ((fleuronref02_near.f (wrap64 ((wrap64 (-t349)) * 65536)) x7_2).bind fun t350 => (if t350 = (Int.tmod (ji9) 65536) then (if (x4_3 ++ t348).size + 1 ≤ 9223372036854775807 then ((fleuronref02_digits.f k2 (wrap64 (-t349)) x6_2).bind fun t351 => (if ((x4_3 ++ t348) ++ (⟨#[46]⟩ : ByteArray)).size + t351.size ≤ 9223372036854775807 then (some (((x4_3 ++ t348) ++ (⟨#[46]⟩ : ByteArray)) ++ t351, 0)) else (none))) else (none)) else (fleuronref02_Text.l0 k2 (x4_3 ++ t348) (Int.tmod (ji9) 65536) (wrap64 (x6_2 + 1)) (wrap64 (x7_2 * 10))))) else (fleuronref02_Text.l0 k2 (x4_3 ++ t348) (Int.tmod (ji9) 65536) (wrap64 (x6_2 + 1)) (wrap64 (x7_2 * 10)))) = some (r1, r2) := H
                have A13 := Aside0.mk A130
                clear A130
                by_cases c14 : (wrap64 (-t349)) < x7_2
                · rw [if_pos c14] at H
                  have c14b0 : decide ((wrap64 (-t349)) < x7_2) = true := decide_eq_true c14
                  clear c14
                  replace H := Option.bind_eq_some_iff.mp H
                  obtain ⟨t350, A150, H⟩ := H
                  replace H : (if t350 = (Int.tmod (ji9) 65536) then (if (x4_3 ++ t348).size + 1 ≤ 9223372036854775807 then ((fleuronref02_digits.f k2 (wrap64 (-t349)) x6_2).bind fun t351 => (if ((x4_3 ++ t348) ++ (⟨#[46]⟩ : ByteArray)).size + t351.size ≤ 9223372036854775807 then (some (((x4_3 ++ t348) ++ (⟨#[46]⟩ : ByteArray)) ++ t351, 0)) else (none))) else (none)) else (fleuronref02_Text.l0 k2 (x4_3 ++ t348) (Int.tmod (ji9) 65536) (wrap64 (x6_2 + 1)) (wrap64 (x7_2 * 10)))) = some (r1, r2) := H
                  have A15 := Aside0.mk A150
                  clear A150
                  by_cases c16 : t350 = (Int.tmod (ji9) 65536)
                  · rw [if_pos c16] at H
                    have c16b0 : (t350 == (Int.tmod (ji9) 65536)) = true := beq_iff_eq.mpr c16
                    have c16b1 : (t350 != (Int.tmod (ji9) 65536)) = false := bne_eq_false_iff_eq.mpr c16
                    clear c16
                    by_cases c17 : (x4_3 ++ t348).size + 1 ≤ 9223372036854775807
                    · rw [if_pos c17] at H
                      have c17b0 := eq_true c17
                      have c17b1 : decide ((x4_3 ++ t348).size + 1 ≤ 9223372036854775807) = true := decide_eq_true c17
                      try have c17b2 : (9223372036854775807 < (x4_3 ++ t348).size + 1) = False := eq_false (Nat.not_lt.2 c17)
                      try (have c17b3 : (9223372036854775807 < x4_3.size + t348.size + 1) = False := eq_false (Nat.not_lt.2 (by have z_ := c17; simp only [ByteArray.size_append] at z_; exact z_)))
                      replace H := Option.bind_eq_some_iff.mp H
                      obtain ⟨t351, A180, H⟩ := H
                      replace H : (if ((x4_3 ++ t348) ++ (⟨#[46]⟩ : ByteArray)).size + t351.size ≤ 9223372036854775807 then (some (((x4_3 ++ t348) ++ (⟨#[46]⟩ : ByteArray)) ++ t351, 0)) else (none)) = some (r1, r2) := H
                      have A18 := Aside0.mk A180
                      clear A180
                      by_cases c19 : ((x4_3 ++ t348) ++ (⟨#[46]⟩ : ByteArray)).size + t351.size ≤ 9223372036854775807
                      · rw [if_pos c19] at H
                        have c19b0 := eq_true c19
                        have c19b1 : decide (((x4_3 ++ t348) ++ (⟨#[46]⟩ : ByteArray)).size + t351.size ≤ 9223372036854775807) = true := decide_eq_true c19
                        try have c19b2 : (9223372036854775807 < ((x4_3 ++ t348) ++ (⟨#[46]⟩ : ByteArray)).size + t351.size) = False := eq_false (Nat.not_lt.2 c19)
                        try (have c19b3 : (9223372036854775807 < x4_3.size + t348.size + 1 + t351.size) = False := eq_false (Nat.not_lt.2 (by have z_ := c19; simp only [ByteArray.size_append] at z_; exact z_)))
                        simp only [Option.some.injEq, Prod.mk.injEq] at H
                        obtain ⟨rfl, rfl⟩ := H
                        go_wp2_with (first | ((with_reducible refine gate_callee (f := 35) rfl ?_); refine goesL_ (some 37) rfl rfl Tryz.func35 (by kernel_rfl) rfl #[.int .i64 (wrap64 ((wrap64 (-(Int.tmod (ji9) 65536))) * x7_2)), .int .i64 65536] rfl (by (try simp only [List.map_toArray, List.map_cons, List.map_nil]); first | done | (simp only [hji9]; rfl) | rfl | (simp only [List.length_drop, List.length_take]; rfl)) ?_; (with_reducible refine (fleuronref02_near.calls (wrap64 ((wrap64 (-(Int.tmod (ji9) 65536))) * x7_2)) 65536 t349 _ A13.out).mono ?_); rintro e w' ⟨rfl, ⟨nd, rfl⟩⟩; refine ⟨_, rfl, ?_⟩) | (go_at_call 35; (with_reducible refine (fleuronref02_near.calls (wrap64 ((wrap64 (-t349)) * 65536)) x7_2 t350 _ A15.out).mono ?_); rintro e w' ⟨rfl, ⟨nd, rfl⟩⟩) | ((with_reducible refine gate_callee (f := 47) rfl ?_); refine goesL_ (some 54) rfl rfl Tryz.func47 (by kernel_rfl) rfl #[.int .i64 (wrap64 (-t349)), .int .i64 x6_2] rfl (by (try simp only [List.map_toArray, List.map_cons, List.map_nil]); first | done | rfl | (simp only [List.length_drop, List.length_take]; rfl)) ?_; (with_reducible refine (fleuronref02_digits.calls k2 (wrap64 (-t349)) x6_2 t351 _ A18.out).mono ?_); rintro e w' ⟨rfl, ⟨nd, rfl⟩⟩; refine ⟨_, rfl, ?_⟩))
                        go_ret2
                        exact ⟨by first | rfl | (simp [errW_none, errW_some] <;> rfl) | (simp only [← hji9]; first | rfl | (simp [errW_none, errW_some] <;> rfl)) | (simp [*, errW_none, errW_some] <;> rfl), by repeat (first | (with_reducible first | exact HB.out | apply below_alloc | apply pw_below_drewN | apply below_drew1) | exact HB.out)⟩
                      · rw [if_neg c19] at H
                        exact absurd H (by simp)
                    · rw [if_neg c17] at H
                      exact absurd H (by simp)
                  · rw [if_neg c16] at H
                    have c16b0 : (t350 == (Int.tmod (ji9) 65536)) = false := beq_eq_false_iff_ne.mpr c16
                    have c16b1 : (t350 != (Int.tmod (ji9) 65536)) = true := bne_iff_ne.mpr c16
                    have H' := Aside0.mk H
                    clear H
                    go_wp2_with (first | ((with_reducible refine gate_callee (f := 35) rfl ?_); refine goesL_ (some 37) rfl rfl Tryz.func35 (by kernel_rfl) rfl #[.int .i64 (wrap64 ((wrap64 (-(Int.tmod (ji9) 65536))) * x7_2)), .int .i64 65536] rfl (by (try simp only [List.map_toArray, List.map_cons, List.map_nil]); first | done | (simp only [hji9]; rfl) | rfl | (simp only [List.length_drop, List.length_take]; rfl)) ?_; (with_reducible refine (fleuronref02_near.calls (wrap64 ((wrap64 (-(Int.tmod (ji9) 65536))) * x7_2)) 65536 t349 _ A13.out).mono ?_); rintro e w' ⟨rfl, ⟨nd, rfl⟩⟩; refine ⟨_, rfl, ?_⟩) | (go_at_call 35; (with_reducible refine (fleuronref02_near.calls (wrap64 ((wrap64 (-t349)) * 65536)) x7_2 t350 _ A15.out).mono ?_); rintro e w' ⟨rfl, ⟨nd, rfl⟩⟩))
                    go_roundg k2
                    case measure => have := HJ3.out; have := HK2.out; omega
                    case rel => exact ⟨(wrap64 (x6_2 + 1)), (wrap64 (x7_2 * 10)), (by first | rfl | (simp; done) | (simp [*]; done)), (by first | rfl | (simp; done) | (simp [*]; done)), H', ⟨by have := HJ3.out; have := HK2.out; omega⟩, ⟨by repeat (first | (with_reducible first | exact HB.out | apply below_alloc | apply pw_below_drewN | apply below_drew1) | exact HB.out)⟩⟩
                · rw [if_neg c14] at H
                  have c14b0 : decide ((wrap64 (-t349)) < x7_2) = false := decide_eq_false c14
                  clear c14
                  have H' := Aside0.mk H
                  clear H
                  go_wp2_with (first | ((with_reducible refine gate_callee (f := 35) rfl ?_); refine goesL_ (some 37) rfl rfl Tryz.func35 (by kernel_rfl) rfl #[.int .i64 (wrap64 ((wrap64 (-(Int.tmod (ji9) 65536))) * x7_2)), .int .i64 65536] rfl (by (try simp only [List.map_toArray, List.map_cons, List.map_nil]); first | done | (simp only [hji9]; rfl) | rfl | (simp only [List.length_drop, List.length_take]; rfl)) ?_; (with_reducible refine (fleuronref02_near.calls (wrap64 ((wrap64 (-(Int.tmod (ji9) 65536))) * x7_2)) 65536 t349 _ A13.out).mono ?_); rintro e w' ⟨rfl, ⟨nd, rfl⟩⟩; refine ⟨_, rfl, ?_⟩))
                  go_roundg k2
                  case measure => have := HJ3.out; have := HK2.out; omega
                  case rel => exact ⟨(wrap64 (x6_2 + 1)), (wrap64 (x7_2 * 10)), (by first | rfl | (simp; done) | (simp [*]; done)), (by first | rfl | (simp; done) | (simp [*]; done)), H', ⟨by have := HJ3.out; have := HK2.out; omega⟩, ⟨by repeat (first | (with_reducible first | exact HB.out | apply below_alloc | apply pw_below_drewN | apply below_drew1) | exact HB.out)⟩⟩
        · rw [if_neg c11] at H
          exact absurd H (by simp)
  · replace c3 := Bool.eq_false_iff.mpr c3
    subst c3
    have H1 : (some ((⟨#[]⟩ : ByteArray), 2)) = some (r1, r2) := by rw [if_neg (show ¬ (false = true) by decide)] at H; exact H
    clear H
    have H := H1
    clear H1
    simp only [Option.some.injEq, Prod.mk.injEq] at H
    obtain ⟨rfl, rfl⟩ := H
    go_enter Tryz.func27, Tryz.ntmps27
    go_wp2_with (first | ((with_reducible refine gate_dst (N := 10) rfl ?_); refine Kd.R_lit (Kd.int .i64) _ 3 ?hg (N := 10) ?hd (xs := ([a0] : List Int)) (inner := [.int .i64 a0]) (ok := fun _ => True) (okp := fun _ => True) ?hr ?hp (fun _ hk => hk) trivial (Below.refl _ _) (Nat.le_refl _) (by simp) ?_; (case hd => rfl); (case hg => rfl); (case hr => first | (go_simp; done) | (go_simp; rfl)); (case hp => exact (Reps.one (show Kd.M (Kd.int .i64) _ _ _ a0 [.int .i64 a0] from rfl) (Reps.none _ _))); intro v345 w20 ho21 hb hg_ hnew_; clear hg_ hnew_; (first | rw [← Ny344.out] at ho21 | (simp only [Int.reduceToNat] at ho21; rw [← Ny344.out] at ho21)); have n0_ := Aside0.mk (Kd.R_lower ho21 (below_size (by repeat (first | (with_reducible first | exact HB.out | apply below_alloc | apply pw_below_drewN | apply below_drew1) | exact HB.out)))); have n1_ := Aside0.mk (below_step (by repeat (first | (with_reducible first | exact HB.out | apply below_alloc | apply pw_below_drewN | apply below_drew1) | exact HB.out)) hb); clear HB; have HO346 := n0_; have HB := n1_; clear n0_ n1_; clear hb ho21; obtain ⟨Ao22, co22, eo22⟩ := Kd.R_slice HO346.out; subst eo22) | ((with_reducible refine gate_callee (f := 33) rfl ?_); refine goesL_ (some 11) rfl rfl Tryz.func33 (by kernel_rfl) rfl #[.slice Ao22 y344.length co22] rfl (by (try simp only [List.map_toArray, List.map_cons, List.map_nil]); first | done | rfl | (simp only [List.length_drop, List.length_take]; rfl)) ?_; (with_reducible refine (fleuronref02_is.calls k _ _ y344 false _ ?side1 ?side2 A2.out).mono ?_); (case side1 => repeat (first | exact (Kd.R_reads' HO346.out).2.2 | (with_reducible refine Kd.C_alloc ?_ _) | (with_reducible refine Kd.C_drewN ?_ _) | (with_reducible refine Kd.C_drew ?_))); (case side2 => exact (Kd.R_reads' HO346.out).2.1); rintro e w' ⟨rfl, ⟨nd, rfl⟩⟩; refine ⟨_, rfl, ?_⟩))
    go_ret2
    exact ⟨by first | rfl | (simp [errW_none, errW_some] <;> rfl) | (simp [*, errW_none, errW_some] <;> rfl), by repeat (first | (with_reducible first | exact HB.out | apply below_alloc | apply pw_below_drewN | apply below_drew1) | exact HB.out)⟩

end Go.Proofs.YtjaifahodfljkaaGreatDoor.Z
