/- Laid by program (this session's, over the kit's print): functions of this seat as plain Lean functions, each with its contract. -/
import Derived.Test.YtjaifahodfljkaaDoorZx0
import Derived.Test.YtjaifahodfljkaaDoorZx1
import Derived.Test.YtjaifahodfljkaaDoorZx2
import Derived.Test.YtjaifahodfljkaaDoorZx3
namespace Go.Proofs.YtjaifahodfljkaaDoor.Z
open Go.RowKit Go.Proofs.YtjaifahodfljkaaDoorW.PrintWords Go.Proofs.YtjaifahodfljkaaDoorW.PrintLast Go.Proofs.YtjaifahodfljkaaDoorW.PrintMore
attribute [local go_sem] max2_int min2_int max_two min_two max_three min_three max_four min_four   -- for this text's walks alone
set_option linter.unusedVariables false
set_option linter.unusedSimpArgs false

/-! ### fix_Arg: function 17 -/
mutual
def fix_Arg.j1 : Nat → Int → Int → Int → Option (Int × Int)
  | 0, _, _, _ => none
  | k + 1, x0, x1, x8 => (fix_abs.f x1).bind fun t194 => ((fix_abs.f x0).bind fun t195 => (if t194 > t195 then (fix_Arg.j2 k x0 x1 (wrap64 (94371840 - x8))) else (fix_Arg.j2 k x0 x1 x8)))
def fix_Arg.j2 : Nat → Int → Int → Int → Option (Int × Int)
  | 0, _, _, _ => none
  | k + 1, x0, x1, x8 => if x0 < 0 then (if x1 < 0 then (some (wrap64 (-(wrap64 (188743680 - x8))), 0)) else (some (wrap64 (188743680 - x8), 0))) else (if x1 < 0 then (some (wrap64 (-x8), 0)) else (some (x8, 0)))
def fix_Arg.l0 : Nat → Int → Int → Int → Int → Int → Int → Option (Int × Int)
  | 0, _, _, _, _, _, _ => none
  | k + 1, x0, x1, x6, x7, x8, x9 => if x9 ≥ 0 then (if 0 ≤ x9 then (if (wrap64 (x8 + (shl .i64 1 x9))) > 47185920 then (fix_Arg.l0 k x0 x1 x6 x7 x8 (wrap64 (x9 - 1))) else ((fix_sine.f k (wrap64 (x8 + (shl .i64 1 x9)))).bind fun bt192 => (if (wrap64 (bt192.1 * x6)) ≤ (wrap64 (bt192.2 * x7)) then (fix_Arg.l0 k x0 x1 x6 x7 (wrap64 (x8 + (shl .i64 1 x9))) (wrap64 (x9 - 1))) else (fix_Arg.l0 k x0 x1 x6 x7 x8 (wrap64 (x9 - 1)))))) else (none)) else (fix_Arg.j1 k x0 x1 x8)
end
def fix_Arg.f (k : Nat) (a0 : Int) (a1 : Int) : Option (Int × Int) := (fix_fixed.f k (([a0, a1] : List Int))).bind fun t187 => (if t187 = true then ((fix_abs.f a0).bind fun t188 => ((fix_abs.f a1).bind fun t189 => ((fix_abs.f a0).bind fun t190 => ((fix_abs.f a1).bind fun t191 => (if (mx t188 t189) = 0 then (some (0, 18)) else (if (mn t190 t191) < (mx t188 t189) then (fix_Arg.l0 k a0 a1 (mx t188 t189) (mn t190 t191) 0 25) else (fix_Arg.j1 k a0 a1 47185920))))))) else (some (0, 2)))
theorem fix_Arg.mono_l : ∀ k, (∀ y0 y1 y2, LeO (fix_Arg.j1 k y0 y1 y2) (fix_Arg.j1 (k + 1) y0 y1 y2)) ∧ (∀ y0 y1 y2, LeO (fix_Arg.j2 k y0 y1 y2) (fix_Arg.j2 (k + 1) y0 y1 y2)) ∧ (∀ y0 y1 y2 y3 y4 y5, LeO (fix_Arg.l0 k y0 y1 y2 y3 y4 y5) (fix_Arg.l0 (k + 1) y0 y1 y2 y3 y4 y5))
  | 0 => ⟨fun _ _ _ r h => by simp [fix_Arg.j1] at h, fun _ _ _ r h => by simp [fix_Arg.j2] at h, fun _ _ _ _ _ _ r h => by simp [fix_Arg.l0] at h⟩
  | k + 1 => by
    obtain ⟨ih0, ih1, ih2⟩ := fix_Arg.mono_l k
    refine ⟨?_, ?_, ?_⟩
    · intro y0 y1 y2
      unfold fix_Arg.j1
      repeat' first
      | (with_reducible exact ih0 _ _ _)
      | (with_reducible exact ih1 _ _ _)
      | (with_reducible exact ih2 _ _ _ _ _ _)
      | (with_reducible exact fix_fixed.mono _ _)
      | (with_reducible exact fix_sine.mono _ _)
      | (with_reducible exact LeO.refl _)
      | (with_reducible exact LeO.none _)
      | (with_reducible refine LeO.ite ?_ ?_)
      | (with_reducible refine LeO.bind ?_ (fun _ => ?_))
      | exact ih0 _ _ _
      | exact ih1 _ _ _
      | exact ih2 _ _ _ _ _ _
      | exact fix_fixed.mono _ _
      | exact fix_sine.mono _ _
      | exact LeO.none _
      | refine LeO.ite ?_ ?_
      | refine LeO.bind ?_ (fun _ => ?_)
    · intro y0 y1 y2
      unfold fix_Arg.j2
      repeat' first
      | (with_reducible exact ih0 _ _ _)
      | (with_reducible exact ih1 _ _ _)
      | (with_reducible exact ih2 _ _ _ _ _ _)
      | (with_reducible exact fix_fixed.mono _ _)
      | (with_reducible exact fix_sine.mono _ _)
      | (with_reducible exact LeO.refl _)
      | (with_reducible exact LeO.none _)
      | (with_reducible refine LeO.ite ?_ ?_)
      | (with_reducible refine LeO.bind ?_ (fun _ => ?_))
      | exact ih0 _ _ _
      | exact ih1 _ _ _
      | exact ih2 _ _ _ _ _ _
      | exact fix_fixed.mono _ _
      | exact fix_sine.mono _ _
      | exact LeO.none _
      | refine LeO.ite ?_ ?_
      | refine LeO.bind ?_ (fun _ => ?_)
    · intro y0 y1 y2 y3 y4 y5
      unfold fix_Arg.l0
      repeat' first
      | (with_reducible exact ih0 _ _ _)
      | (with_reducible exact ih1 _ _ _)
      | (with_reducible exact ih2 _ _ _ _ _ _)
      | (with_reducible exact fix_fixed.mono _ _)
      | (with_reducible exact fix_sine.mono _ _)
      | (with_reducible exact LeO.refl _)
      | (with_reducible exact LeO.none _)
      | (with_reducible refine LeO.ite ?_ ?_)
      | (with_reducible refine LeO.bind ?_ (fun _ => ?_))
      | exact ih0 _ _ _
      | exact ih1 _ _ _
      | exact ih2 _ _ _ _ _ _
      | exact fix_fixed.mono _ _
      | exact fix_sine.mono _ _
      | exact LeO.none _
      | refine LeO.ite ?_ ?_
      | refine LeO.bind ?_ (fun _ => ?_)
theorem fix_Arg.mono : ∀ a0 a1 k, LeO (fix_Arg.f k a0 a1) (fix_Arg.f (k + 1) a0 a1) := by
  intro a0 a1 k
  obtain ⟨ih0, ih1, ih2⟩ := fix_Arg.mono_l k
  unfold fix_Arg.f
  repeat' first
      | (with_reducible exact ih0 _ _ _)
      | (with_reducible exact ih1 _ _ _)
      | (with_reducible exact ih2 _ _ _ _ _ _)
      | (with_reducible exact fix_fixed.mono _ _)
      | (with_reducible exact fix_sine.mono _ _)
      | (with_reducible exact LeO.refl _)
      | (with_reducible exact LeO.none _)
      | (with_reducible refine LeO.ite ?_ ?_)
      | (with_reducible refine LeO.bind ?_ (fun _ => ?_))
      | exact ih0 _ _ _
      | exact ih1 _ _ _
      | exact ih2 _ _ _ _ _ _
      | exact fix_fixed.mono _ _
      | exact fix_sine.mono _ _
      | exact LeO.none _
      | refine LeO.ite ?_ ?_
      | refine LeO.bind ?_ (fun _ => ?_)
set_option maxHeartbeats 8000000 in
set_option maxRecDepth 100000 in
theorem fix_Arg.calls (k : Nat) (a0 : Int) (a1 : Int) (r1 : Int) (r2 : Int) (w : World) (h : fix_Arg.f k a0 a1 = some (r1, r2)) :
    Calls Tryd.prog 17 #[.int .i64 a0, .int .i64 a1] w fun e w' => e = .returned (.tuple #[.int .i64 r1, .int .i64 r2]) ∧ Below w.heap.size w w' := by
  have HB := Aside0.mk (Below.refl w.heap.size w)
  have H : ((fix_fixed.f k (([a0, a1] : List Int))).bind fun t187 => (if t187 = true then ((fix_abs.f a0).bind fun t188 => ((fix_abs.f a1).bind fun t189 => ((fix_abs.f a0).bind fun t190 => ((fix_abs.f a1).bind fun t191 => (if (mx t188 t189) = 0 then (some (0, 18)) else (if (mn t190 t191) < (mx t188 t189) then (fix_Arg.l0 k a0 a1 (mx t188 t189) (mn t190 t191) 0 25) else (fix_Arg.j1 k a0 a1 47185920))))))) else (some (0, 2)))) = some (r1, r2) := h
  clear h
  obtain ⟨y184, hy184⟩ : ∃ y_ : List Int, y_ = (([a0, a1] : List Int)) := ⟨_, rfl⟩
  replace H : ((fix_fixed.f k y184).bind fun t187 => (if t187 = true then ((fix_abs.f a0).bind fun t188 => ((fix_abs.f a1).bind fun t189 => ((fix_abs.f a0).bind fun t190 => ((fix_abs.f a1).bind fun t191 => (if (mx t188 t189) = 0 then (some (0, 18)) else (if (mn t190 t191) < (mx t188 t189) then (fix_Arg.l0 k a0 a1 (mx t188 t189) (mn t190 t191) 0 25) else (fix_Arg.j1 k a0 a1 47185920))))))) else (some (0, 2)))) = some (r1, r2) := by first | (rw [hy184]; with_reducible exact H) | (have H2_ := (Option.bind_some _ _).symm.trans H; rw [hy184]; with_reducible exact H2_) | (have H2_ := (Option.bind_some _ _).symm.trans H; with_reducible exact H2_) | with_reducible exact H | (rw [hy184]; exact H) | exact H
  have Ny184 := Aside0.mk hy184
  clear hy184
  replace H := Option.bind_eq_some_iff.mp H
  obtain ⟨t187, A30, H⟩ := H
  replace H : (if t187 = true then ((fix_abs.f a0).bind fun t188 => ((fix_abs.f a1).bind fun t189 => ((fix_abs.f a0).bind fun t190 => ((fix_abs.f a1).bind fun t191 => (if (mx t188 t189) = 0 then (some (0, 18)) else (if (mn t190 t191) < (mx t188 t189) then (fix_Arg.l0 k a0 a1 (mx t188 t189) (mn t190 t191) 0 25) else (fix_Arg.j1 k a0 a1 47185920))))))) else (some (0, 2))) = some (r1, r2) := H
  have A3 := Aside0.mk A30
  clear A30
  by_cases c4 : t187 = true
  · subst c4
    have H1 : ((fix_abs.f a0).bind fun t188 => ((fix_abs.f a1).bind fun t189 => ((fix_abs.f a0).bind fun t190 => ((fix_abs.f a1).bind fun t191 => (if (mx t188 t189) = 0 then (some (0, 18)) else (if (mn t190 t191) < (mx t188 t189) then (fix_Arg.l0 k a0 a1 (mx t188 t189) (mn t190 t191) 0 25) else (fix_Arg.j1 k a0 a1 47185920))))))) = some (r1, r2) := by rw [if_pos rfl] at H; exact H
    clear H
    have H := H1
    clear H1
    replace H := Option.bind_eq_some_iff.mp H
    obtain ⟨t188, A50, H⟩ := H
    replace H : ((fix_abs.f a1).bind fun t189 => ((fix_abs.f a0).bind fun t190 => ((fix_abs.f a1).bind fun t191 => (if (mx t188 t189) = 0 then (some (0, 18)) else (if (mn t190 t191) < (mx t188 t189) then (fix_Arg.l0 k a0 a1 (mx t188 t189) (mn t190 t191) 0 25) else (fix_Arg.j1 k a0 a1 47185920)))))) = some (r1, r2) := H
    have A5 := Aside0.mk A50
    clear A50
    replace H := Option.bind_eq_some_iff.mp H
    obtain ⟨t189, A60, H⟩ := H
    replace H : ((fix_abs.f a0).bind fun t190 => ((fix_abs.f a1).bind fun t191 => (if (mx t188 t189) = 0 then (some (0, 18)) else (if (mn t190 t191) < (mx t188 t189) then (fix_Arg.l0 k a0 a1 (mx t188 t189) (mn t190 t191) 0 25) else (fix_Arg.j1 k a0 a1 47185920))))) = some (r1, r2) := H
    have A6 := Aside0.mk A60
    clear A60
    obtain ⟨ji7, hji7⟩ : ∃ j_ : Int, (mx t188 t189) = j_ := ⟨_, rfl⟩
    replace H : ((fix_abs.f a0).bind fun t190 => ((fix_abs.f a1).bind fun t191 => (if (ji7) = 0 then (some (0, 18)) else (if (mn t190 t191) < (ji7) then (fix_Arg.l0 k a0 a1 ji7 (mn t190 t191) 0 25) else (fix_Arg.j1 k a0 a1 47185920))))) = some (r1, r2) := by first | (rw [hji7] at H; exact H) | (simp only [hji7] at H ⊢; exact H)
    (try rw [hji7] at A3)
    (try rw [hji7] at A5)
    (try rw [hji7] at A6)
    have hji7_ : (if t188 < t189 then t189 else t188) = ji7 := hji7
    replace H := Option.bind_eq_some_iff.mp H
    obtain ⟨t190, A80, H⟩ := H
    replace H : ((fix_abs.f a1).bind fun t191 => (if (ji7) = 0 then (some (0, 18)) else (if (mn t190 t191) < (ji7) then (fix_Arg.l0 k a0 a1 ji7 (mn t190 t191) 0 25) else (fix_Arg.j1 k a0 a1 47185920)))) = some (r1, r2) := H
    have A8 := Aside0.mk A80
    clear A80
    replace H := Option.bind_eq_some_iff.mp H
    obtain ⟨t191, A90, H⟩ := H
    replace H : (if (ji7) = 0 then (some (0, 18)) else (if (mn t190 t191) < (ji7) then (fix_Arg.l0 k a0 a1 ji7 (mn t190 t191) 0 25) else (fix_Arg.j1 k a0 a1 47185920))) = some (r1, r2) := H
    have A9 := Aside0.mk A90
    clear A90
    obtain ⟨ji10, hji10⟩ : ∃ j_ : Int, (mn t190 t191) = j_ := ⟨_, rfl⟩
    replace H : (if (ji7) = 0 then (some (0, 18)) else (if (ji10) < (ji7) then (fix_Arg.l0 k a0 a1 ji7 ji10 0 25) else (fix_Arg.j1 k a0 a1 47185920))) = some (r1, r2) := by first | (rw [hji10] at H; exact H) | (simp only [hji10] at H ⊢; exact H)
    (try rw [hji10] at A3)
    (try rw [hji10] at A5)
    (try rw [hji10] at A6)
    (try rw [hji10] at A8)
    (try rw [hji10] at A9)
    have hji10_ : (if t191 < t190 then t191 else t190) = ji10 := hji10
    by_cases c11 : (ji7) = 0
    · rw [if_pos c11] at H
      have c11b0 : ((ji7) == 0) = true := beq_iff_eq.mpr c11
      have c11b1 : ((ji7) != 0) = false := bne_eq_false_iff_eq.mpr c11
      clear c11
      simp only [Option.some.injEq, Prod.mk.injEq] at H
      obtain ⟨rfl, rfl⟩ := H
      go_enter Tryd.func17, Tryd.ntmps17
      go_wp2_with (first | ((with_reducible refine gate_dst (N := 15) rfl ?_); refine Kd.R_lit (Kd.int .i64) _ 3 ?hg (N := 15) ?hd (xs := ([a0, a1] : List Int)) (inner := [.int .i64 a0, .int .i64 a1]) (ok := fun _ => True) (okp := fun _ => True) ?hr ?hp (fun _ hk => hk) trivial (Below.refl _ _) (Nat.le_refl _) (by simp) ?_; (case hd => rfl); (case hg => rfl); (case hr => first | (go_simp; done) | (go_simp; rfl)); (case hp => exact (Reps.one (show Kd.M (Kd.int .i64) _ _ _ a0 [.int .i64 a0] from rfl) (Reps.one (show Kd.M (Kd.int .i64) _ _ _ a1 [.int .i64 a1] from rfl) (Reps.none _ _)))); intro v185 w12 ho13 hb hg_ hnew_; clear hg_ hnew_; (first | rw [← Ny184.out] at ho13 | (simp only [Int.reduceToNat] at ho13; rw [← Ny184.out] at ho13)); have n0_ := Aside0.mk (Kd.R_lower ho13 (below_size (by repeat (first | (with_reducible first | exact HB.out | apply below_alloc | apply pw_below_drewN | apply below_drew1) | exact HB.out)))); have n1_ := Aside0.mk (below_step (by repeat (first | (with_reducible first | exact HB.out | apply below_alloc | apply pw_below_drewN | apply below_drew1) | exact HB.out)) hb); clear HB; have HO186 := n0_; have HB := n1_; clear n0_ n1_; clear hb ho13; obtain ⟨Ao14, co14, eo14⟩ := Kd.R_slice HO186.out; subst eo14) | ((with_reducible refine gate_callee (f := 19) rfl ?_); refine goesL_ (some 16) rfl rfl Tryd.func19 (by kernel_rfl) rfl #[.slice Ao14 y184.length co14] rfl (by (try simp only [List.map_toArray, List.map_cons, List.map_nil]); first | done | rfl | (simp only [List.length_drop, List.length_take]; rfl)) ?_; (with_reducible refine (fix_fixed.calls k _ _ y184 true _ ?side1 ?side2 A3.out).mono ?_); (case side1 => repeat (first | exact (Kd.R_reads' HO186.out).2.2 | (with_reducible refine Kd.C_alloc ?_ _) | (with_reducible refine Kd.C_drewN ?_ _) | (with_reducible refine Kd.C_drew ?_))); (case side2 => exact (Kd.R_reads' HO186.out).2.1); rintro e w' ⟨rfl, ⟨nd, rfl⟩⟩; refine ⟨_, rfl, ?_⟩) | ((with_reducible refine gate_callee (f := 32) rfl ?_); refine goesL_ (some 19) rfl rfl Tryd.func32 (by kernel_rfl) rfl #[.int .i64 a0] rfl (by (try simp only [List.map_toArray, List.map_cons, List.map_nil]); first | done | rfl | (simp only [List.length_drop, List.length_take]; rfl)) ?_; (with_reducible refine (fix_abs.calls a0 t188 _ A5.out).mono ?_); rintro e w15 ⟨rfl, hb⟩; refine ⟨_, rfl, ?_⟩; have n0_ := Aside0.mk (Kd.R_below (by (with_reducible repeat (first | apply Kd.R_alloc | apply Kd.R_drewN | apply Kd.R_drew)); exact HO186.out) hb); have n1_ := Aside0.mk (below_step (by repeat (first | (with_reducible first | exact HB.out | apply below_alloc | apply pw_below_drewN | apply below_drew1) | exact HB.out)) hb); clear HO186; clear HB; have HO186 := n0_; have HB := n1_; clear n0_ n1_; (try clear hb); (try clear hb2); (try clear hk); (try clear hi)) | ((with_reducible refine gate_callee (f := 32) rfl ?_); refine goesL_ (some 21) rfl rfl Tryd.func32 (by kernel_rfl) rfl #[.int .i64 a1] rfl (by (try simp only [List.map_toArray, List.map_cons, List.map_nil]); first | done | rfl | (simp only [List.length_drop, List.length_take]; rfl)) ?_; (with_reducible refine (fix_abs.calls a1 t189 _ A6.out).mono ?_); rintro e w16 ⟨rfl, hb⟩; refine ⟨_, rfl, ?_⟩; have n0_ := Aside0.mk (Kd.R_below (by (with_reducible repeat (first | apply Kd.R_alloc | apply Kd.R_drewN | apply Kd.R_drew)); exact HO186.out) hb); have n1_ := Aside0.mk (below_step (by repeat (first | (with_reducible first | exact HB.out | apply below_alloc | apply pw_below_drewN | apply below_drew1) | exact HB.out)) hb); clear HO186; clear HB; have HO186 := n0_; have HB := n1_; clear n0_ n1_; (try clear hb); (try clear hb2); (try clear hk); (try clear hi)) | ((with_reducible refine gate_callee (f := 32) rfl ?_); refine goesL_ (some 24) rfl rfl Tryd.func32 (by kernel_rfl) rfl #[.int .i64 a0] rfl (by (try simp only [List.map_toArray, List.map_cons, List.map_nil]); first | done | rfl | (simp only [List.length_drop, List.length_take]; rfl)) ?_; (with_reducible refine (fix_abs.calls a0 t190 _ A8.out).mono ?_); rintro e w17 ⟨rfl, hb⟩; refine ⟨_, rfl, ?_⟩; have n0_ := Aside0.mk (Kd.R_below (by (with_reducible repeat (first | apply Kd.R_alloc | apply Kd.R_drewN | apply Kd.R_drew)); exact HO186.out) hb); have n1_ := Aside0.mk (below_step (by repeat (first | (with_reducible first | exact HB.out | apply below_alloc | apply pw_below_drewN | apply below_drew1) | exact HB.out)) hb); clear HO186; clear HB; have HO186 := n0_; have HB := n1_; clear n0_ n1_; (try clear hb); (try clear hb2); (try clear hk); (try clear hi)) | ((with_reducible refine gate_callee (f := 32) rfl ?_); refine goesL_ (some 26) rfl rfl Tryd.func32 (by kernel_rfl) rfl #[.int .i64 a1] rfl (by (try simp only [List.map_toArray, List.map_cons, List.map_nil]); first | done | rfl | (simp only [List.length_drop, List.length_take]; rfl)) ?_; (with_reducible refine (fix_abs.calls a1 t191 _ A9.out).mono ?_); rintro e w18 ⟨rfl, hb⟩; refine ⟨_, rfl, ?_⟩; have n0_ := Aside0.mk (Kd.R_below (by (with_reducible repeat (first | apply Kd.R_alloc | apply Kd.R_drewN | apply Kd.R_drew)); exact HO186.out) hb); have n1_ := Aside0.mk (below_step (by repeat (first | (with_reducible first | exact HB.out | apply below_alloc | apply pw_below_drewN | apply below_drew1) | exact HB.out)) hb); clear HO186; clear HB; have HO186 := n0_; have HB := n1_; clear n0_ n1_; (try clear hb); (try clear hb2); (try clear hk); (try clear hi)))
      go_ret2
      exact ⟨by first | rfl | (simp [errW_none, errW_some] <;> rfl) | (simp only [← hji7, ← hji10]; first | rfl | (simp [errW_none, errW_some] <;> rfl)) | (simp [*, errW_none, errW_some] <;> rfl), by repeat (first | (with_reducible first | exact HB.out | apply below_alloc | apply pw_below_drewN | apply below_drew1) | exact HB.out)⟩
    · rw [if_neg c11] at H
      have c11b0 : ((ji7) == 0) = false := beq_eq_false_iff_ne.mpr c11
      have c11b1 : ((ji7) != 0) = true := bne_iff_ne.mpr c11
      have HC19 := Aside0.mk H
      clear H
      go_enter Tryd.func17, Tryd.ntmps17
      go_upto_if 32 with (first | ((with_reducible refine gate_dst (N := 15) rfl ?_); refine Kd.R_lit (Kd.int .i64) _ 3 ?hg (N := 15) ?hd (xs := ([a0, a1] : List Int)) (inner := [.int .i64 a0, .int .i64 a1]) (ok := fun _ => True) (okp := fun _ => True) ?hr ?hp (fun _ hk => hk) trivial (Below.refl _ _) (Nat.le_refl _) (by simp) ?_; (case hd => rfl); (case hg => rfl); (case hr => first | (go_simp; done) | (go_simp; rfl)); (case hp => exact (Reps.one (show Kd.M (Kd.int .i64) _ _ _ a0 [.int .i64 a0] from rfl) (Reps.one (show Kd.M (Kd.int .i64) _ _ _ a1 [.int .i64 a1] from rfl) (Reps.none _ _)))); intro v185 w20 ho21 hb hg_ hnew_; clear hg_ hnew_; (first | rw [← Ny184.out] at ho21 | (simp only [Int.reduceToNat] at ho21; rw [← Ny184.out] at ho21)); have n0_ := Aside0.mk (Kd.R_lower ho21 (below_size (by repeat (first | (with_reducible first | exact HB.out | apply below_alloc | apply pw_below_drewN | apply below_drew1) | exact HB.out)))); have n1_ := Aside0.mk (below_step (by repeat (first | (with_reducible first | exact HB.out | apply below_alloc | apply pw_below_drewN | apply below_drew1) | exact HB.out)) hb); clear HB; have HO186 := n0_; have HB := n1_; clear n0_ n1_; clear hb ho21; obtain ⟨Ao22, co22, eo22⟩ := Kd.R_slice HO186.out; subst eo22) | ((with_reducible refine gate_callee (f := 19) rfl ?_); refine goesL_ (some 16) rfl rfl Tryd.func19 (by kernel_rfl) rfl #[.slice Ao22 y184.length co22] rfl (by (try simp only [List.map_toArray, List.map_cons, List.map_nil]); first | done | rfl | (simp only [List.length_drop, List.length_take]; rfl)) ?_; (with_reducible refine (fix_fixed.calls k _ _ y184 true _ ?side1 ?side2 A3.out).mono ?_); (case side1 => repeat (first | exact (Kd.R_reads' HO186.out).2.2 | (with_reducible refine Kd.C_alloc ?_ _) | (with_reducible refine Kd.C_drewN ?_ _) | (with_reducible refine Kd.C_drew ?_))); (case side2 => exact (Kd.R_reads' HO186.out).2.1); rintro e w' ⟨rfl, ⟨nd, rfl⟩⟩; refine ⟨_, rfl, ?_⟩) | ((with_reducible refine gate_callee (f := 32) rfl ?_); refine goesL_ (some 19) rfl rfl Tryd.func32 (by kernel_rfl) rfl #[.int .i64 a0] rfl (by (try simp only [List.map_toArray, List.map_cons, List.map_nil]); first | done | rfl | (simp only [List.length_drop, List.length_take]; rfl)) ?_; (with_reducible refine (fix_abs.calls a0 t188 _ A5.out).mono ?_); rintro e w23 ⟨rfl, hb⟩; refine ⟨_, rfl, ?_⟩; have n0_ := Aside0.mk (Kd.R_below (by (with_reducible repeat (first | apply Kd.R_alloc | apply Kd.R_drewN | apply Kd.R_drew)); exact HO186.out) hb); have n1_ := Aside0.mk (below_step (by repeat (first | (with_reducible first | exact HB.out | apply below_alloc | apply pw_below_drewN | apply below_drew1) | exact HB.out)) hb); clear HO186; clear HB; have HO186 := n0_; have HB := n1_; clear n0_ n1_; (try clear hb); (try clear hb2); (try clear hk); (try clear hi)) | ((with_reducible refine gate_callee (f := 32) rfl ?_); refine goesL_ (some 21) rfl rfl Tryd.func32 (by kernel_rfl) rfl #[.int .i64 a1] rfl (by (try simp only [List.map_toArray, List.map_cons, List.map_nil]); first | done | rfl | (simp only [List.length_drop, List.length_take]; rfl)) ?_; (with_reducible refine (fix_abs.calls a1 t189 _ A6.out).mono ?_); rintro e w24 ⟨rfl, hb⟩; refine ⟨_, rfl, ?_⟩; have n0_ := Aside0.mk (Kd.R_below (by (with_reducible repeat (first | apply Kd.R_alloc | apply Kd.R_drewN | apply Kd.R_drew)); exact HO186.out) hb); have n1_ := Aside0.mk (below_step (by repeat (first | (with_reducible first | exact HB.out | apply below_alloc | apply pw_below_drewN | apply below_drew1) | exact HB.out)) hb); clear HO186; clear HB; have HO186 := n0_; have HB := n1_; clear n0_ n1_; (try clear hb); (try clear hb2); (try clear hk); (try clear hi)) | ((with_reducible refine gate_callee (f := 32) rfl ?_); refine goesL_ (some 24) rfl rfl Tryd.func32 (by kernel_rfl) rfl #[.int .i64 a0] rfl (by (try simp only [List.map_toArray, List.map_cons, List.map_nil]); first | done | rfl | (simp only [List.length_drop, List.length_take]; rfl)) ?_; (with_reducible refine (fix_abs.calls a0 t190 _ A8.out).mono ?_); rintro e w25 ⟨rfl, hb⟩; refine ⟨_, rfl, ?_⟩; have n0_ := Aside0.mk (Kd.R_below (by (with_reducible repeat (first | apply Kd.R_alloc | apply Kd.R_drewN | apply Kd.R_drew)); exact HO186.out) hb); have n1_ := Aside0.mk (below_step (by repeat (first | (with_reducible first | exact HB.out | apply below_alloc | apply pw_below_drewN | apply below_drew1) | exact HB.out)) hb); clear HO186; clear HB; have HO186 := n0_; have HB := n1_; clear n0_ n1_; (try clear hb); (try clear hb2); (try clear hk); (try clear hi)) | ((with_reducible refine gate_callee (f := 32) rfl ?_); refine goesL_ (some 26) rfl rfl Tryd.func32 (by kernel_rfl) rfl #[.int .i64 a1] rfl (by (try simp only [List.map_toArray, List.map_cons, List.map_nil]); first | done | rfl | (simp only [List.length_drop, List.length_take]; rfl)) ?_; (with_reducible refine (fix_abs.calls a1 t191 _ A9.out).mono ?_); rintro e w26 ⟨rfl, hb⟩; refine ⟨_, rfl, ?_⟩; have n0_ := Aside0.mk (Kd.R_below (by (with_reducible repeat (first | apply Kd.R_alloc | apply Kd.R_drewN | apply Kd.R_drew)); exact HO186.out) hb); have n1_ := Aside0.mk (below_step (by repeat (first | (with_reducible first | exact HB.out | apply below_alloc | apply pw_below_drewN | apply below_drew1) | exact HB.out)) hb); clear HO186; clear HB; have HO186 := n0_; have HB := n1_; clear n0_ n1_; (try clear hb); (try clear hb2); (try clear hk); (try clear hi)))
      (try simp only [Act.put, List.setIfInBounds_toArray, List.set_cons_zero, List.set_cons_succ])
      go_cut [8] (fun v8 wc => ∃ (kq : Nat) (x8_18 : Int), v8 = .int .i64 x8_18 ∧ Aside0 (fix_Arg.j1 kq a0 a1 x8_18 = some (r1, r2)) ∧ Aside0 (kq ≤ k) ∧ Aside0 (Below w.heap.size w wc))
      case first =>
        have H := HC19.out
        clear HC19
        by_cases c27 : (ji10) < (ji7)
        · rw [if_pos c27] at H
          have c27b0 : decide ((ji10) < (ji7)) = true := decide_eq_true c27
          clear c27
          (first | rw [c27b0] | (simp only [i64_w, i32_w]; rw [c27b0]) | skip)
          have H' := Aside0.mk H
          clear H
          go_wp2
          go_loopg [8, 9] k (fun kq v8 v9 w' => ∃ (x8_1 : Int) (x9_1 : Int), v8 = .int .i64 x8_1 ∧ v9 = .int .i64 x9_1 ∧ Aside0 (fix_Arg.l0 kq a0 a1 ji7 ji10 x8_1 x9_1 = some (r1, r2)) ∧ Aside0 (kq ≤ k) ∧ Aside0 (Below w.heap.size w w'))
          case atStart => exact ⟨(0), (25), (by first | rfl | (simp; done) | (simp [*]; done)), (by first | rfl | (simp; done) | (simp [*]; done)), H', ⟨Nat.le_refl _⟩, ⟨by repeat (first | (with_reducible first | exact HB.out | apply below_alloc | apply pw_below_drewN | apply below_drew1) | exact HB.out)⟩⟩
          case round =>
            clear H'
            try clear c1
            try clear c2
            try clear p2
            try clear c3
            try clear c4
            try clear c11
            try clear c11b0
            try clear c11b1
            try clear c17
            try clear c19
            try clear c27
            try clear c27b0
            obtain ⟨x8_1, x9_1, rfl, rfl, HA, HK1, HB⟩ := hrel
            cases gk with
            | zero => exact absurd HA.out (by simp [fix_Arg.l0])
            | succ k1 =>
              have H := HA.out
              clear HA
              simp only [fix_Arg.l0] at H
              by_cases c28 : x9_1 ≥ 0
              · rw [if_pos c28] at H
                have c28b0 : decide (0 ≤ x9_1) = true := decide_eq_true c28
                clear c28
                by_cases c29 : 0 ≤ x9_1
                · rw [if_pos c29] at H
                  have c29b0 := eq_true c29
                  have c29b1 : decide (0 ≤ x9_1) = true := decide_eq_true c29
                  clear c29
                  obtain ⟨ji30, hji30⟩ : ∃ j_ : Int, (shl .i64 1 x9_1) = j_ := ⟨_, rfl⟩
                  replace H : (if (wrap64 (x8_1 + (ji30))) > 47185920 then (fix_Arg.l0 k1 a0 a1 ji7 ji10 x8_1 (wrap64 (x9_1 - 1))) else ((fix_sine.f k1 (wrap64 (x8_1 + (ji30)))).bind fun bt192 => (if (wrap64 (bt192.1 * ji7)) ≤ (wrap64 (bt192.2 * ji10)) then (fix_Arg.l0 k1 a0 a1 ji7 ji10 (wrap64 (x8_1 + (ji30))) (wrap64 (x9_1 - 1))) else (fix_Arg.l0 k1 a0 a1 ji7 ji10 x8_1 (wrap64 (x9_1 - 1)))))) = some (r1, r2) := by first | (rw [hji30] at H; exact H) | (simp only [hji30] at H ⊢; exact H)
                  have hji30_ : (IntKind.i64.wrap (1 * 2 ^ min x9_1.toNat 64)) = ji30 := hji30
                  have hji30z : x9_1 ≤ 64 → (IntKind.i64.wrap (1 * 2 ^ x9_1.toNat)) = ji30 := shl_small hji30
                  have hji30u : (IntKind.i64.wrap (2 ^ min x9_1.toNat 64)) = ji30 := by have h_ := hji30_; rw [Int.one_mul] at h_; exact h_
                  have hji30v : x9_1 ≤ 64 → (IntKind.i64.wrap (2 ^ x9_1.toNat)) = ji30 := fun hle_ => by have h_ := hji30z hle_; rw [Int.one_mul] at h_; exact h_
                  have hji30y : (wrap64 (1 * 2 ^ min x9_1.toNat 64)) = ji30 := (i64_w _).symm.trans hji30_
                  have hji30x : x9_1 ≤ 64 → (wrap64 (1 * 2 ^ x9_1.toNat)) = ji30 := fun h_ => (i64_w _).symm.trans (hji30z h_)
                  by_cases c31 : (wrap64 (x8_1 + (ji30))) > 47185920
                  · rw [if_pos c31] at H
                    have c31b0 : decide (47185920 < (wrap64 (x8_1 + (ji30)))) = true := decide_eq_true c31
                    clear c31
                    have H' := Aside0.mk H
                    clear H
                    go_wp2
                    go_roundg k1
                    case measure => have := HK1.out; omega
                    case rel => exact ⟨(x8_1), (wrap64 (x9_1 - 1)), (by first | rfl | (simp; done) | (simp [*]; done)), (by first | rfl | (simp; done) | (simp [*]; done)), H', ⟨by have := HK1.out; omega⟩, ⟨by repeat (first | (with_reducible first | exact HB.out | apply below_alloc | apply pw_below_drewN | apply below_drew1) | exact HB.out)⟩⟩
                  · rw [if_neg c31] at H
                    have c31b0 : decide (47185920 < (wrap64 (x8_1 + (ji30)))) = false := decide_eq_false c31
                    clear c31
                    replace H := Option.bind_eq_some_iff.mp H
                    obtain ⟨⟨t192, t193⟩, A320, H⟩ := H
                    replace H : (if (wrap64 (t192 * ji7)) ≤ (wrap64 (t193 * ji10)) then (fix_Arg.l0 k1 a0 a1 ji7 ji10 (wrap64 (x8_1 + (ji30))) (wrap64 (x9_1 - 1))) else (fix_Arg.l0 k1 a0 a1 ji7 ji10 x8_1 (wrap64 (x9_1 - 1)))) = some (r1, r2) := H
                    have A32 := Aside0.mk A320
                    clear A320
                    by_cases c33 : (wrap64 (t192 * ji7)) ≤ (wrap64 (t193 * ji10))
                    · rw [if_pos c33] at H
                      have c33b0 : decide ((wrap64 (t192 * ji7)) ≤ (wrap64 (t193 * ji10))) = true := decide_eq_true c33
                      clear c33
                      have H' := Aside0.mk H
                      clear H
                      go_wp2_with (first | ((with_reducible refine gate_callee (f := 14) rfl ?_); refine goesL_ (some 45) rfl rfl Tryd.func14 (by kernel_rfl) rfl #[.int .i64 (wrap64 (x8_1 + (ji30)))] rfl (by (try simp only [List.map_toArray, List.map_cons, List.map_nil]); first | done | (simp only [hji30]; rfl) | rfl | (simp only [List.length_drop, List.length_take]; rfl)) ?_; (with_reducible refine (fix_sine.calls k1 (wrap64 (x8_1 + (ji30))) t192 t193 _ A32.out).mono ?_); rintro e w' ⟨rfl, ⟨nd, rfl⟩⟩; refine ⟨_, rfl, ?_⟩))
                      go_roundg k1
                      case measure => have := HK1.out; omega
                      case rel => exact ⟨(wrap64 (x8_1 + (ji30))), (wrap64 (x9_1 - 1)), (by first | rfl | (simp; done) | (simp only [← hji30] <;> (first | rfl | simp)) | (simp [*]; done)), (by first | rfl | (simp; done) | (simp [*]; done)), H', ⟨by have := HK1.out; omega⟩, ⟨by repeat (first | (with_reducible first | exact HB.out | apply below_alloc | apply pw_below_drewN | apply below_drew1) | exact HB.out)⟩⟩
                    · rw [if_neg c33] at H
                      have c33b0 : decide ((wrap64 (t192 * ji7)) ≤ (wrap64 (t193 * ji10))) = false := decide_eq_false c33
                      clear c33
                      have H' := Aside0.mk H
                      clear H
                      go_wp2_with (first | ((with_reducible refine gate_callee (f := 14) rfl ?_); refine goesL_ (some 45) rfl rfl Tryd.func14 (by kernel_rfl) rfl #[.int .i64 (wrap64 (x8_1 + (ji30)))] rfl (by (try simp only [List.map_toArray, List.map_cons, List.map_nil]); first | done | (simp only [hji30]; rfl) | rfl | (simp only [List.length_drop, List.length_take]; rfl)) ?_; (with_reducible refine (fix_sine.calls k1 (wrap64 (x8_1 + (ji30))) t192 t193 _ A32.out).mono ?_); rintro e w' ⟨rfl, ⟨nd, rfl⟩⟩; refine ⟨_, rfl, ?_⟩))
                      go_roundg k1
                      case measure => have := HK1.out; omega
                      case rel => exact ⟨(x8_1), (wrap64 (x9_1 - 1)), (by first | rfl | (simp; done) | (simp [*]; done)), (by first | rfl | (simp; done) | (simp [*]; done)), H', ⟨by have := HK1.out; omega⟩, ⟨by repeat (first | (with_reducible first | exact HB.out | apply below_alloc | apply pw_below_drewN | apply below_drew1) | exact HB.out)⟩⟩
                · rw [if_neg c29] at H
                  exact absurd H (by simp)
              · rw [if_neg c28] at H
                have c28b0 : decide (0 ≤ x9_1) = false := decide_eq_false c28
                clear c28
                have H' := Aside0.mk H
                clear H
                go_wp2
                go_meet
                case rel => exact ⟨_, (x8_1), (by first | rfl | (simp; done) | (simp [*]; done)), H', ⟨by have := HK1.out; first | omega | exact Nat.le_refl _⟩, ⟨by repeat (first | (with_reducible first | exact HB.out | apply below_alloc | apply pw_below_drewN | apply below_drew1) | exact HB.out)⟩⟩
        · rw [if_neg c27] at H
          have c27b0 : decide ((ji10) < (ji7)) = false := decide_eq_false c27
          clear c27
          (first | rw [c27b0] | (simp only [i64_w, i32_w]; rw [c27b0]) | skip)
          have H' := Aside0.mk H
          clear H
          go_wp2
          go_meet
          case rel => exact ⟨_, (47185920), (by first | rfl | (simp; done) | (simp [*]; done)), H', ⟨by first | omega | exact Nat.le_refl _⟩, ⟨by repeat (first | (with_reducible first | exact HB.out | apply below_alloc | apply pw_below_drewN | apply below_drew1) | exact HB.out)⟩⟩
      case rest =>
        clear HC19
        try clear c1
        try clear c2
        try clear p2
        try clear c3
        try clear c4
        try clear p6
        try clear c11
        try clear c11b0
        try clear c11b1
        try clear c14
        try clear c17
        try clear c19
        try clear c27
        try clear c27b0
        try clear c28
        try clear c28b0
        try clear c29
        try clear c29b0
        try clear c29b1
        try clear c31
        try clear c31b0
        try clear c32
        try clear c33
        try clear c33b0
        try clear p2
        obtain ⟨kq, x8_18, rfl, HA, HJ18, HB⟩ := hcut
        cases kq with
        | zero => exact absurd HA.out (by simp [fix_Arg.j1])
        | succ kj18 =>
          have H := HA.out
          clear HA
          simp only [fix_Arg.j1] at H
          replace H := Option.bind_eq_some_iff.mp H
          obtain ⟨t194, A340, H⟩ := H
          replace H : ((fix_abs.f a0).bind fun t195 => (if t194 > t195 then (fix_Arg.j2 kj18 a0 a1 (wrap64 (94371840 - x8_18))) else (fix_Arg.j2 kj18 a0 a1 x8_18))) = some (r1, r2) := H
          have A34 := Aside0.mk A340
          clear A340
          replace H := Option.bind_eq_some_iff.mp H
          obtain ⟨t195, A350, H⟩ := H
          replace H : (if t194 > t195 then (fix_Arg.j2 kj18 a0 a1 (wrap64 (94371840 - x8_18))) else (fix_Arg.j2 kj18 a0 a1 x8_18)) = some (r1, r2) := H
          have A35 := Aside0.mk A350
          clear A350
          have HC36 := Aside0.mk H
          clear H
          go_upto_if 60 with (first | ((with_reducible refine gate_callee (f := 32) rfl ?_); refine goesL_ (some 57) rfl rfl Tryd.func32 (by kernel_rfl) rfl #[.int .i64 a1] rfl (by (try simp only [List.map_toArray, List.map_cons, List.map_nil]); first | done | rfl | (simp only [List.length_drop, List.length_take]; rfl)) ?_; (with_reducible refine (fix_abs.calls a1 t194 _ A34.out).mono ?_); rintro e w37 ⟨rfl, hb⟩; refine ⟨_, rfl, ?_⟩; have n0_ := Aside0.mk (below_step (by repeat (first | (with_reducible first | exact HB.out | apply below_alloc | apply pw_below_drewN | apply below_drew1) | exact HB.out)) hb); clear HB; have HB := n0_; clear n0_; (try clear hb); (try clear hb2); (try clear hk); (try clear hi)) | ((with_reducible refine gate_callee (f := 32) rfl ?_); refine goesL_ (some 59) rfl rfl Tryd.func32 (by kernel_rfl) rfl #[.int .i64 a0] rfl (by (try simp only [List.map_toArray, List.map_cons, List.map_nil]); first | done | rfl | (simp only [List.length_drop, List.length_take]; rfl)) ?_; (with_reducible refine (fix_abs.calls a0 t195 _ A35.out).mono ?_); rintro e w38 ⟨rfl, hb⟩; refine ⟨_, rfl, ?_⟩; have n0_ := Aside0.mk (below_step (by repeat (first | (with_reducible first | exact HB.out | apply below_alloc | apply pw_below_drewN | apply below_drew1) | exact HB.out)) hb); clear HB; have HB := n0_; clear n0_; (try clear hb); (try clear hb2); (try clear hk); (try clear hi)))
          (try simp only [Act.put, List.setIfInBounds_toArray, List.set_cons_zero, List.set_cons_succ])
          go_cut [8] (fun v8 wc => ∃ (kq : Nat) (x8_35 : Int), v8 = .int .i64 x8_35 ∧ Aside0 (fix_Arg.j2 kq a0 a1 x8_35 = some (r1, r2)) ∧ Aside0 (kq ≤ kj18) ∧ Aside0 (Below w.heap.size w wc))
          case first =>
            have H := HC36.out
            clear HC36
            by_cases c39 : t194 > t195
            · rw [if_pos c39] at H
              have c39b0 : decide (t195 < t194) = true := decide_eq_true c39
              clear c39
              (first | rw [c39b0] | (simp only [i64_w, i32_w]; rw [c39b0]) | skip)
              have H' := Aside0.mk H
              clear H
              go_wp2
              go_meet
              case rel => exact ⟨_, (wrap64 (94371840 - x8_18)), (by first | rfl | (simp; done) | (simp [*]; done)), H', ⟨by have := HJ18.out; first | omega | exact Nat.le_refl _⟩, ⟨by repeat (first | (with_reducible first | exact HB.out | apply below_alloc | apply pw_below_drewN | apply below_drew1) | exact HB.out)⟩⟩
            · rw [if_neg c39] at H
              have c39b0 : decide (t195 < t194) = false := decide_eq_false c39
              clear c39
              (first | rw [c39b0] | (simp only [i64_w, i32_w]; rw [c39b0]) | skip)
              have H' := Aside0.mk H
              clear H
              go_wp2
              go_meet
              case rel => exact ⟨_, (x8_18), (by first | rfl | (simp; done) | (simp [*]; done)), H', ⟨by have := HJ18.out; first | omega | exact Nat.le_refl _⟩, ⟨by repeat (first | (with_reducible first | exact HB.out | apply below_alloc | apply pw_below_drewN | apply below_drew1) | exact HB.out)⟩⟩
          case rest =>
            clear HC36
            try clear c1
            try clear c2
            try clear p2
            try clear c3
            try clear c4
            try clear p6
            try clear c11
            try clear c11b0
            try clear c11b1
            try clear c14
            try clear c17
            try clear c19
            try clear c27
            try clear c27b0
            try clear c28
            try clear c28b0
            try clear c29
            try clear c29b0
            try clear c29b1
            try clear c31
            try clear c31b0
            try clear c32
            try clear c33
            try clear c33b0
            try clear c39
            try clear c39b0
            try clear p2
            try clear p6
            obtain ⟨kq, x8_35, rfl, HA, HJ35, HB⟩ := hcut
            cases kq with
            | zero => exact absurd HA.out (by simp [fix_Arg.j2])
            | succ kj35 =>
              have H := HA.out
              clear HA
              simp only [fix_Arg.j2] at H
              by_cases c40 : a0 < 0
              · rw [if_pos c40] at H
                have c40b0 : decide (a0 < 0) = true := decide_eq_true c40
                clear c40
                by_cases c41 : a1 < 0
                · rw [if_pos c41] at H
                  have c41b0 : decide (a1 < 0) = true := decide_eq_true c41
                  clear c41
                  simp only [Option.some.injEq, Prod.mk.injEq] at H
                  obtain ⟨rfl, rfl⟩ := H
                  go_wp2
                  go_ret2
                  exact ⟨by first | rfl | (simp [errW_none, errW_some] <;> rfl) | (simp only [← hji7, ← hji10]; first | rfl | (simp [errW_none, errW_some] <;> rfl)) | (simp [*, errW_none, errW_some] <;> rfl), by repeat (first | (with_reducible first | exact HB.out | apply below_alloc | apply pw_below_drewN | apply below_drew1) | exact HB.out)⟩
                · rw [if_neg c41] at H
                  have c41b0 : decide (a1 < 0) = false := decide_eq_false c41
                  clear c41
                  simp only [Option.some.injEq, Prod.mk.injEq] at H
                  obtain ⟨rfl, rfl⟩ := H
                  go_wp2
                  go_ret2
                  exact ⟨by first | rfl | (simp [errW_none, errW_some] <;> rfl) | (simp only [← hji7, ← hji10]; first | rfl | (simp [errW_none, errW_some] <;> rfl)) | (simp [*, errW_none, errW_some] <;> rfl), by repeat (first | (with_reducible first | exact HB.out | apply below_alloc | apply pw_below_drewN | apply below_drew1) | exact HB.out)⟩
              · rw [if_neg c40] at H
                have c40b0 : decide (a0 < 0) = false := decide_eq_false c40
                clear c40
                by_cases c42 : a1 < 0
                · rw [if_pos c42] at H
                  have c42b0 : decide (a1 < 0) = true := decide_eq_true c42
                  clear c42
                  simp only [Option.some.injEq, Prod.mk.injEq] at H
                  obtain ⟨rfl, rfl⟩ := H
                  go_wp2
                  go_ret2
                  exact ⟨by first | rfl | (simp [errW_none, errW_some] <;> rfl) | (simp only [← hji7, ← hji10]; first | rfl | (simp [errW_none, errW_some] <;> rfl)) | (simp [*, errW_none, errW_some] <;> rfl), by repeat (first | (with_reducible first | exact HB.out | apply below_alloc | apply pw_below_drewN | apply below_drew1) | exact HB.out)⟩
                · rw [if_neg c42] at H
                  have c42b0 : decide (a1 < 0) = false := decide_eq_false c42
                  clear c42
                  simp only [Option.some.injEq, Prod.mk.injEq] at H
                  obtain ⟨rfl, rfl⟩ := H
                  go_wp2
                  go_ret2
                  exact ⟨by first | rfl | (simp [errW_none, errW_some] <;> rfl) | (simp only [← hji7, ← hji10]; first | rfl | (simp [errW_none, errW_some] <;> rfl)) | (simp [*, errW_none, errW_some] <;> rfl), by repeat (first | (with_reducible first | exact HB.out | apply below_alloc | apply pw_below_drewN | apply below_drew1) | exact HB.out)⟩
  · replace c4 := Bool.eq_false_iff.mpr c4
    subst c4
    have H1 : (some (0, 2)) = some (r1, r2) := by rw [if_neg (show ¬ (false = true) by decide)] at H; exact H
    clear H
    have H := H1
    clear H1
    simp only [Option.some.injEq, Prod.mk.injEq] at H
    obtain ⟨rfl, rfl⟩ := H
    go_enter Tryd.func17, Tryd.ntmps17
    go_wp2_with (first | ((with_reducible refine gate_dst (N := 15) rfl ?_); refine Kd.R_lit (Kd.int .i64) _ 3 ?hg (N := 15) ?hd (xs := ([a0, a1] : List Int)) (inner := [.int .i64 a0, .int .i64 a1]) (ok := fun _ => True) (okp := fun _ => True) ?hr ?hp (fun _ hk => hk) trivial (Below.refl _ _) (Nat.le_refl _) (by simp) ?_; (case hd => rfl); (case hg => rfl); (case hr => first | (go_simp; done) | (go_simp; rfl)); (case hp => exact (Reps.one (show Kd.M (Kd.int .i64) _ _ _ a0 [.int .i64 a0] from rfl) (Reps.one (show Kd.M (Kd.int .i64) _ _ _ a1 [.int .i64 a1] from rfl) (Reps.none _ _)))); intro v185 w43 ho44 hb hg_ hnew_; clear hg_ hnew_; (first | rw [← Ny184.out] at ho44 | (simp only [Int.reduceToNat] at ho44; rw [← Ny184.out] at ho44)); have n0_ := Aside0.mk (Kd.R_lower ho44 (below_size (by repeat (first | (with_reducible first | exact HB.out | apply below_alloc | apply pw_below_drewN | apply below_drew1) | exact HB.out)))); have n1_ := Aside0.mk (below_step (by repeat (first | (with_reducible first | exact HB.out | apply below_alloc | apply pw_below_drewN | apply below_drew1) | exact HB.out)) hb); clear HB; have HO186 := n0_; have HB := n1_; clear n0_ n1_; clear hb ho44; obtain ⟨Ao45, co45, eo45⟩ := Kd.R_slice HO186.out; subst eo45) | ((with_reducible refine gate_callee (f := 19) rfl ?_); refine goesL_ (some 16) rfl rfl Tryd.func19 (by kernel_rfl) rfl #[.slice Ao45 y184.length co45] rfl (by (try simp only [List.map_toArray, List.map_cons, List.map_nil]); first | done | rfl | (simp only [List.length_drop, List.length_take]; rfl)) ?_; (with_reducible refine (fix_fixed.calls k _ _ y184 false _ ?side1 ?side2 A3.out).mono ?_); (case side1 => repeat (first | exact (Kd.R_reads' HO186.out).2.2 | (with_reducible refine Kd.C_alloc ?_ _) | (with_reducible refine Kd.C_drewN ?_ _) | (with_reducible refine Kd.C_drew ?_))); (case side2 => exact (Kd.R_reads' HO186.out).2.1); rintro e w' ⟨rfl, ⟨nd, rfl⟩⟩; refine ⟨_, rfl, ?_⟩))
    go_ret2
    exact ⟨by first | rfl | (simp [errW_none, errW_some] <;> rfl) | (simp [*, errW_none, errW_some] <;> rfl), by repeat (first | (with_reducible first | exact HB.out | apply below_alloc | apply pw_below_drewN | apply below_drew1) | exact HB.out)⟩

/-! ### fix_Dir: function 18 -/
def fix_Dir.f (k : Nat) (a0 : Int) : Option (Int × Int × Int) := (fix_Sine.f k a0).bind fun bt196 => (if bt196.2.2 = 0 then ((fix_Floor.f (wrap64 (bt196.2.1 + 2048)) 4096).bind fun t199 => ((fix_Floor.f (wrap64 (bt196.1 + 2048)) 4096).bind fun t200 => (some (t199, t200, 0)))) else (some (0, 0, bt196.2.2)))
theorem fix_Dir.mono : ∀ a0 k, LeO (fix_Dir.f k a0) (fix_Dir.f (k + 1) a0) := by
  intro a0 k
  unfold fix_Dir.f
  repeat' first
      | (with_reducible exact fix_Sine.mono _ _)
      | (with_reducible exact LeO.refl _)
      | (with_reducible exact LeO.none _)
      | (with_reducible refine LeO.ite ?_ ?_)
      | (with_reducible refine LeO.bind ?_ (fun _ => ?_))
      | exact fix_Sine.mono _ _
      | exact LeO.none _
      | refine LeO.ite ?_ ?_
      | refine LeO.bind ?_ (fun _ => ?_)
set_option maxHeartbeats 8000000 in
set_option maxRecDepth 100000 in
theorem fix_Dir.calls (k : Nat) (a0 : Int) (r1 : Int) (r2 : Int) (r3 : Int) (w : World) (h : fix_Dir.f k a0 = some (r1, r2, r3)) :
    Calls Tryd.prog 18 #[.int .i64 a0] w fun e w' => e = .returned (.tuple #[.int .i64 r1, .int .i64 r2, .int .i64 r3]) ∧ Below w.heap.size w w' := by
  have HB := Aside0.mk (Below.refl w.heap.size w)
  have H : ((fix_Sine.f k a0).bind fun bt196 => (if bt196.2.2 = 0 then ((fix_Floor.f (wrap64 (bt196.2.1 + 2048)) 4096).bind fun t199 => ((fix_Floor.f (wrap64 (bt196.1 + 2048)) 4096).bind fun t200 => (some (t199, t200, 0)))) else (some (0, 0, bt196.2.2)))) = some (r1, r2, r3) := h
  clear h
  replace H := Option.bind_eq_some_iff.mp H
  obtain ⟨⟨t196, t197, t198⟩, A20, H⟩ := H
  replace H : (if t198 = 0 then ((fix_Floor.f (wrap64 (t197 + 2048)) 4096).bind fun t199 => ((fix_Floor.f (wrap64 (t196 + 2048)) 4096).bind fun t200 => (some (t199, t200, 0)))) else (some (0, 0, t198))) = some (r1, r2, r3) := H
  have A2 := Aside0.mk A20
  clear A20
  by_cases c3 : t198 = 0
  · rw [if_pos c3] at H
    have c3b0 : (t198 == 0) = true := beq_iff_eq.mpr c3
    have c3b1 : (t198 != 0) = false := bne_eq_false_iff_eq.mpr c3
    clear c3
    replace H := Option.bind_eq_some_iff.mp H
    obtain ⟨t199, A40, H⟩ := H
    replace H : ((fix_Floor.f (wrap64 (t196 + 2048)) 4096).bind fun t200 => (some (t199, t200, 0))) = some (r1, r2, r3) := H
    have A4 := Aside0.mk A40
    clear A40
    replace H := Option.bind_eq_some_iff.mp H
    obtain ⟨t200, A50, H⟩ := H
    replace H : (some (t199, t200, 0)) = some (r1, r2, r3) := H
    have A5 := Aside0.mk A50
    clear A50
    simp only [Option.some.injEq, Prod.mk.injEq] at H
    obtain ⟨rfl, rfl, rfl⟩ := H
    go_enter Tryd.func18, Tryd.ntmps18
    go_wp2_with (first | ((with_reducible refine gate_callee (f := 7) rfl ?_); refine goesL_ (some 9) rfl rfl Tryd.func7 (by kernel_rfl) rfl #[.int .i64 a0] rfl (by (try simp only [List.map_toArray, List.map_cons, List.map_nil]); first | done | rfl | (simp only [List.length_drop, List.length_take]; rfl)) ?_; (with_reducible refine (fix_Sine.calls k a0 t196 t197 t198 _ A2.out).mono ?_); rintro e w6 ⟨rfl, hb⟩; refine ⟨_, rfl, ?_⟩; have n0_ := Aside0.mk (below_step (by repeat (first | (with_reducible first | exact HB.out | apply below_alloc | apply pw_below_drewN | apply below_drew1) | exact HB.out)) hb); clear HB; have HB := n0_; clear n0_; (try clear hb); (try clear hb2); (try clear hk); (try clear hi)) | ((with_reducible refine gate_callee (f := 30) rfl ?_); refine goesL_ (some 18) rfl rfl Tryd.func30 (by kernel_rfl) rfl #[.int .i64 (wrap64 (t197 + 2048)), .int .i64 4096] rfl (by (try simp only [List.map_toArray, List.map_cons, List.map_nil]); first | done | rfl | (simp only [List.length_drop, List.length_take]; rfl)) ?_; (with_reducible refine (fix_Floor.calls (wrap64 (t197 + 2048)) 4096 t199 _ A4.out).mono ?_); rintro e w' ⟨rfl, ⟨nd, rfl⟩⟩; refine ⟨_, rfl, ?_⟩) | ((with_reducible refine gate_callee (f := 30) rfl ?_); refine goesL_ (some 21) rfl rfl Tryd.func30 (by kernel_rfl) rfl #[.int .i64 (wrap64 (t196 + 2048)), .int .i64 4096] rfl (by (try simp only [List.map_toArray, List.map_cons, List.map_nil]); first | done | rfl | (simp only [List.length_drop, List.length_take]; rfl)) ?_; (with_reducible refine (fix_Floor.calls (wrap64 (t196 + 2048)) 4096 t200 _ A5.out).mono ?_); rintro e w' ⟨rfl, ⟨nd, rfl⟩⟩; refine ⟨_, rfl, ?_⟩))
    go_ret3
    exact ⟨by first | rfl | (simp [errW_none, errW_some] <;> rfl) | (simp [*, errW_none, errW_some] <;> rfl), by repeat (first | (with_reducible first | exact HB.out | apply below_alloc | apply pw_below_drewN | apply below_drew1) | exact HB.out)⟩
  · rw [if_neg c3] at H
    have c3b0 : (t198 == 0) = false := beq_eq_false_iff_ne.mpr c3
    have c3b1 : (t198 != 0) = true := bne_iff_ne.mpr c3
    simp only [Option.some.injEq, Prod.mk.injEq] at H
    obtain ⟨rfl, rfl, rfl⟩ := H
    go_enter Tryd.func18, Tryd.ntmps18
    go_wp2_with (first | ((with_reducible refine gate_callee (f := 7) rfl ?_); refine goesL_ (some 9) rfl rfl Tryd.func7 (by kernel_rfl) rfl #[.int .i64 a0] rfl (by (try simp only [List.map_toArray, List.map_cons, List.map_nil]); first | done | rfl | (simp only [List.length_drop, List.length_take]; rfl)) ?_; (with_reducible refine (fix_Sine.calls k a0 t196 t197 t198 _ A2.out).mono ?_); rintro e w7 ⟨rfl, hb⟩; refine ⟨_, rfl, ?_⟩; have n0_ := Aside0.mk (below_step (by repeat (first | (with_reducible first | exact HB.out | apply below_alloc | apply pw_below_drewN | apply below_drew1) | exact HB.out)) hb); clear HB; have HB := n0_; clear n0_; (try clear hb); (try clear hb2); (try clear hk); (try clear hi)))
    go_ret3
    exact ⟨by first | rfl | (simp [errW_none, errW_some] <;> rfl) | (simp [*, errW_none, errW_some] <;> rfl), by repeat (first | (with_reducible first | exact HB.out | apply below_alloc | apply pw_below_drewN | apply below_drew1) | exact HB.out)⟩

/-! ### fleuronlaw02_awake: function 8 -/
def fleuronlaw02_awake.f (k : Nat)  : Option (Bool) := (fix_Mul.f k 98304 98304).bind fun bt201 => ((fix_Div.f k 65536 196608).bind fun bt203 => ((fix_Sqrt.f k 131072).bind fun bt205 => ((fix_Hypot.f k 3 4).bind fun bt207 => ((fix_Sine.f k 94371840).bind fun bt209 => ((fix_Arg.f k 1 1).bind fun bt212 => ((fix_Arg.f k (-5) 0).bind fun bt214 => ((fix_Arg.f k 0 (-2)).bind fun bt216 => ((fix_Text.f k 21845).bind fun bt218 => ((fix_Parse.f k (⟨#[45, 46, 53]⟩ : ByteArray)).bind fun bt220 => ((fix_Dir.f k 0).bind fun bt222 => ((fix_Turn.f k 5 7 94371840).bind fun bt225 => (if bt201.1 = 147456 then (if bt201.2 = 0 then (if bt203.1 = 21845 then (if bt203.2 = 0 then (if bt205.1 = 92682 then (if bt205.2 = 0 then (if bt207.1 = 5 then (if bt207.2 = 0 then (if bt209.1 = 268435456 then (if bt209.2.1 = 0 then (if bt209.2.2 = 0 then (if bt212.1 = 47185920 then (if bt212.2 = 0 then (if bt214.1 = 188743680 then (if bt214.2 = 0 then (if bt216.1 = (-94371840) then (if bt216.2 = 0 then (if bt218.1.toList = ([48, 46, 51, 51, 51, 51, 51] : List UInt8) then (if bt218.2 = 0 then (if bt220.1 = (-32768) then (if bt220.2 = 0 then (if bt222.1 = 65536 then (if bt222.2.1 = 0 then (if bt222.2.2 = 0 then (if bt225.1 = (-7) then (if bt225.2.1 = 5 then (some (bt225.2.2 == 0)) else (some false)) else (some false)) else (some false)) else (some false)) else (some false)) else (some false)) else (some false)) else (some false)) else (some false)) else (some false)) else (some false)) else (some false)) else (some false)) else (some false)) else (some false)) else (some false)) else (some false)) else (some false)) else (some false)) else (some false)) else (some false)) else (some false)) else (some false)) else (some false)) else (some false)) else (some false)))))))))))))
theorem fleuronlaw02_awake.mono : ∀ k, LeO (fleuronlaw02_awake.f k ) (fleuronlaw02_awake.f (k + 1) ) := by
  intro  k
  unfold fleuronlaw02_awake.f
  repeat' first
      | (with_reducible exact fix_Arg.mono _ _ _)
      | (with_reducible exact fix_Dir.mono _ _)
      | (with_reducible exact fix_Div.mono _ _ _)
      | (with_reducible exact fix_Hypot.mono _ _ _)
      | (with_reducible exact fix_Mul.mono _ _ _)
      | (with_reducible exact fix_Parse.mono _ _)
      | (with_reducible exact fix_Sine.mono _ _)
      | (with_reducible exact fix_Sqrt.mono _ _)
      | (with_reducible exact fix_Text.mono _ _)
      | (with_reducible exact fix_Turn.mono _ _ _ _)
      | (with_reducible exact LeO.refl _)
      | (with_reducible exact LeO.none _)
      | (with_reducible refine LeO.ite ?_ ?_)
      | (with_reducible refine LeO.bind ?_ (fun _ => ?_))
      | exact fix_Arg.mono _ _ _
      | exact fix_Dir.mono _ _
      | exact fix_Div.mono _ _ _
      | exact fix_Hypot.mono _ _ _
      | exact fix_Mul.mono _ _ _
      | exact fix_Parse.mono _ _
      | exact fix_Sine.mono _ _
      | exact fix_Sqrt.mono _ _
      | exact fix_Text.mono _ _
      | exact fix_Turn.mono _ _ _ _
      | exact LeO.none _
      | refine LeO.ite ?_ ?_
      | refine LeO.bind ?_ (fun _ => ?_)
set_option maxHeartbeats 8000000 in
set_option maxRecDepth 100000 in
theorem fleuronlaw02_awake.callsT (k : Nat)  (w : World) (ht_ : LaidOK w) (h : fleuronlaw02_awake.f k  = some true) :
    Calls Tryd.prog 8 #[] w fun e w' => e = .returned (.bool true) ∧ Below w.heap.size w w' := by
  have HB := Aside0.mk (Below.refl w.heap.size w)
  have HT_ := Aside0.mk ht_
  clear ht_
  have H : ((fix_Mul.f k 98304 98304).bind fun bt201 => ((fix_Div.f k 65536 196608).bind fun bt203 => ((fix_Sqrt.f k 131072).bind fun bt205 => ((fix_Hypot.f k 3 4).bind fun bt207 => ((fix_Sine.f k 94371840).bind fun bt209 => ((fix_Arg.f k 1 1).bind fun bt212 => ((fix_Arg.f k (-5) 0).bind fun bt214 => ((fix_Arg.f k 0 (-2)).bind fun bt216 => ((fix_Text.f k 21845).bind fun bt218 => ((fix_Parse.f k (⟨#[45, 46, 53]⟩ : ByteArray)).bind fun bt220 => ((fix_Dir.f k 0).bind fun bt222 => ((fix_Turn.f k 5 7 94371840).bind fun bt225 => (if bt201.1 = 147456 then (if bt201.2 = 0 then (if bt203.1 = 21845 then (if bt203.2 = 0 then (if bt205.1 = 92682 then (if bt205.2 = 0 then (if bt207.1 = 5 then (if bt207.2 = 0 then (if bt209.1 = 268435456 then (if bt209.2.1 = 0 then (if bt209.2.2 = 0 then (if bt212.1 = 47185920 then (if bt212.2 = 0 then (if bt214.1 = 188743680 then (if bt214.2 = 0 then (if bt216.1 = (-94371840) then (if bt216.2 = 0 then (if bt218.1.toList = ([48, 46, 51, 51, 51, 51, 51] : List UInt8) then (if bt218.2 = 0 then (if bt220.1 = (-32768) then (if bt220.2 = 0 then (if bt222.1 = 65536 then (if bt222.2.1 = 0 then (if bt222.2.2 = 0 then (if bt225.1 = (-7) then (if bt225.2.1 = 5 then (some (bt225.2.2 == 0)) else (some false)) else (some false)) else (some false)) else (some false)) else (some false)) else (some false)) else (some false)) else (some false)) else (some false)) else (some false)) else (some false)) else (some false)) else (some false)) else (some false)) else (some false)) else (some false)) else (some false)) else (some false)) else (some false)) else (some false)) else (some false)) else (some false)) else (some false)) else (some false)) else (some false)) else (some false)))))))))))))) = some true := h
  clear h
  replace H := Option.bind_eq_some_iff.mp H
  obtain ⟨⟨t201, t202⟩, A10, H⟩ := H
  replace H : ((fix_Div.f k 65536 196608).bind fun bt203 => ((fix_Sqrt.f k 131072).bind fun bt205 => ((fix_Hypot.f k 3 4).bind fun bt207 => ((fix_Sine.f k 94371840).bind fun bt209 => ((fix_Arg.f k 1 1).bind fun bt212 => ((fix_Arg.f k (-5) 0).bind fun bt214 => ((fix_Arg.f k 0 (-2)).bind fun bt216 => ((fix_Text.f k 21845).bind fun bt218 => ((fix_Parse.f k (⟨#[45, 46, 53]⟩ : ByteArray)).bind fun bt220 => ((fix_Dir.f k 0).bind fun bt222 => ((fix_Turn.f k 5 7 94371840).bind fun bt225 => (if t201 = 147456 then (if t202 = 0 then (if bt203.1 = 21845 then (if bt203.2 = 0 then (if bt205.1 = 92682 then (if bt205.2 = 0 then (if bt207.1 = 5 then (if bt207.2 = 0 then (if bt209.1 = 268435456 then (if bt209.2.1 = 0 then (if bt209.2.2 = 0 then (if bt212.1 = 47185920 then (if bt212.2 = 0 then (if bt214.1 = 188743680 then (if bt214.2 = 0 then (if bt216.1 = (-94371840) then (if bt216.2 = 0 then (if bt218.1.toList = ([48, 46, 51, 51, 51, 51, 51] : List UInt8) then (if bt218.2 = 0 then (if bt220.1 = (-32768) then (if bt220.2 = 0 then (if bt222.1 = 65536 then (if bt222.2.1 = 0 then (if bt222.2.2 = 0 then (if bt225.1 = (-7) then (if bt225.2.1 = 5 then (some (bt225.2.2 == 0)) else (some false)) else (some false)) else (some false)) else (some false)) else (some false)) else (some false)) else (some false)) else (some false)) else (some false)) else (some false)) else (some false)) else (some false)) else (some false)) else (some false)) else (some false)) else (some false)) else (some false)) else (some false)) else (some false)) else (some false)) else (some false)) else (some false)) else (some false)) else (some false)) else (some false)) else (some false))))))))))))) = some true := H
  have A1 := Aside0.mk A10
  clear A10
  replace H := Option.bind_eq_some_iff.mp H
  obtain ⟨⟨t203, t204⟩, A20, H⟩ := H
  replace H : ((fix_Sqrt.f k 131072).bind fun bt205 => ((fix_Hypot.f k 3 4).bind fun bt207 => ((fix_Sine.f k 94371840).bind fun bt209 => ((fix_Arg.f k 1 1).bind fun bt212 => ((fix_Arg.f k (-5) 0).bind fun bt214 => ((fix_Arg.f k 0 (-2)).bind fun bt216 => ((fix_Text.f k 21845).bind fun bt218 => ((fix_Parse.f k (⟨#[45, 46, 53]⟩ : ByteArray)).bind fun bt220 => ((fix_Dir.f k 0).bind fun bt222 => ((fix_Turn.f k 5 7 94371840).bind fun bt225 => (if t201 = 147456 then (if t202 = 0 then (if t203 = 21845 then (if t204 = 0 then (if bt205.1 = 92682 then (if bt205.2 = 0 then (if bt207.1 = 5 then (if bt207.2 = 0 then (if bt209.1 = 268435456 then (if bt209.2.1 = 0 then (if bt209.2.2 = 0 then (if bt212.1 = 47185920 then (if bt212.2 = 0 then (if bt214.1 = 188743680 then (if bt214.2 = 0 then (if bt216.1 = (-94371840) then (if bt216.2 = 0 then (if bt218.1.toList = ([48, 46, 51, 51, 51, 51, 51] : List UInt8) then (if bt218.2 = 0 then (if bt220.1 = (-32768) then (if bt220.2 = 0 then (if bt222.1 = 65536 then (if bt222.2.1 = 0 then (if bt222.2.2 = 0 then (if bt225.1 = (-7) then (if bt225.2.1 = 5 then (some (bt225.2.2 == 0)) else (some false)) else (some false)) else (some false)) else (some false)) else (some false)) else (some false)) else (some false)) else (some false)) else (some false)) else (some false)) else (some false)) else (some false)) else (some false)) else (some false)) else (some false)) else (some false)) else (some false)) else (some false)) else (some false)) else (some false)) else (some false)) else (some false)) else (some false)) else (some false)) else (some false)) else (some false)))))))))))) = some true := H
  have A2 := Aside0.mk A20
  clear A20
  replace H := Option.bind_eq_some_iff.mp H
  obtain ⟨⟨t205, t206⟩, A30, H⟩ := H
  replace H : ((fix_Hypot.f k 3 4).bind fun bt207 => ((fix_Sine.f k 94371840).bind fun bt209 => ((fix_Arg.f k 1 1).bind fun bt212 => ((fix_Arg.f k (-5) 0).bind fun bt214 => ((fix_Arg.f k 0 (-2)).bind fun bt216 => ((fix_Text.f k 21845).bind fun bt218 => ((fix_Parse.f k (⟨#[45, 46, 53]⟩ : ByteArray)).bind fun bt220 => ((fix_Dir.f k 0).bind fun bt222 => ((fix_Turn.f k 5 7 94371840).bind fun bt225 => (if t201 = 147456 then (if t202 = 0 then (if t203 = 21845 then (if t204 = 0 then (if t205 = 92682 then (if t206 = 0 then (if bt207.1 = 5 then (if bt207.2 = 0 then (if bt209.1 = 268435456 then (if bt209.2.1 = 0 then (if bt209.2.2 = 0 then (if bt212.1 = 47185920 then (if bt212.2 = 0 then (if bt214.1 = 188743680 then (if bt214.2 = 0 then (if bt216.1 = (-94371840) then (if bt216.2 = 0 then (if bt218.1.toList = ([48, 46, 51, 51, 51, 51, 51] : List UInt8) then (if bt218.2 = 0 then (if bt220.1 = (-32768) then (if bt220.2 = 0 then (if bt222.1 = 65536 then (if bt222.2.1 = 0 then (if bt222.2.2 = 0 then (if bt225.1 = (-7) then (if bt225.2.1 = 5 then (some (bt225.2.2 == 0)) else (some false)) else (some false)) else (some false)) else (some false)) else (some false)) else (some false)) else (some false)) else (some false)) else (some false)) else (some false)) else (some false)) else (some false)) else (some false)) else (some false)) else (some false)) else (some false)) else (some false)) else (some false)) else (some false)) else (some false)) else (some false)) else (some false)) else (some false)) else (some false)) else (some false)) else (some false))))))))))) = some true := H
  have A3 := Aside0.mk A30
  clear A30
  replace H := Option.bind_eq_some_iff.mp H
  obtain ⟨⟨t207, t208⟩, A40, H⟩ := H
  replace H : ((fix_Sine.f k 94371840).bind fun bt209 => ((fix_Arg.f k 1 1).bind fun bt212 => ((fix_Arg.f k (-5) 0).bind fun bt214 => ((fix_Arg.f k 0 (-2)).bind fun bt216 => ((fix_Text.f k 21845).bind fun bt218 => ((fix_Parse.f k (⟨#[45, 46, 53]⟩ : ByteArray)).bind fun bt220 => ((fix_Dir.f k 0).bind fun bt222 => ((fix_Turn.f k 5 7 94371840).bind fun bt225 => (if t201 = 147456 then (if t202 = 0 then (if t203 = 21845 then (if t204 = 0 then (if t205 = 92682 then (if t206 = 0 then (if t207 = 5 then (if t208 = 0 then (if bt209.1 = 268435456 then (if bt209.2.1 = 0 then (if bt209.2.2 = 0 then (if bt212.1 = 47185920 then (if bt212.2 = 0 then (if bt214.1 = 188743680 then (if bt214.2 = 0 then (if bt216.1 = (-94371840) then (if bt216.2 = 0 then (if bt218.1.toList = ([48, 46, 51, 51, 51, 51, 51] : List UInt8) then (if bt218.2 = 0 then (if bt220.1 = (-32768) then (if bt220.2 = 0 then (if bt222.1 = 65536 then (if bt222.2.1 = 0 then (if bt222.2.2 = 0 then (if bt225.1 = (-7) then (if bt225.2.1 = 5 then (some (bt225.2.2 == 0)) else (some false)) else (some false)) else (some false)) else (some false)) else (some false)) else (some false)) else (some false)) else (some false)) else (some false)) else (some false)) else (some false)) else (some false)) else (some false)) else (some false)) else (some false)) else (some false)) else (some false)) else (some false)) else (some false)) else (some false)) else (some false)) else (some false)) else (some false)) else (some false)) else (some false)) else (some false)))))))))) = some true := H
  have A4 := Aside0.mk A40
  clear A40
  replace H := Option.bind_eq_some_iff.mp H
  obtain ⟨⟨t209, t210, t211⟩, A50, H⟩ := H
  replace H : ((fix_Arg.f k 1 1).bind fun bt212 => ((fix_Arg.f k (-5) 0).bind fun bt214 => ((fix_Arg.f k 0 (-2)).bind fun bt216 => ((fix_Text.f k 21845).bind fun bt218 => ((fix_Parse.f k (⟨#[45, 46, 53]⟩ : ByteArray)).bind fun bt220 => ((fix_Dir.f k 0).bind fun bt222 => ((fix_Turn.f k 5 7 94371840).bind fun bt225 => (if t201 = 147456 then (if t202 = 0 then (if t203 = 21845 then (if t204 = 0 then (if t205 = 92682 then (if t206 = 0 then (if t207 = 5 then (if t208 = 0 then (if t209 = 268435456 then (if t210 = 0 then (if t211 = 0 then (if bt212.1 = 47185920 then (if bt212.2 = 0 then (if bt214.1 = 188743680 then (if bt214.2 = 0 then (if bt216.1 = (-94371840) then (if bt216.2 = 0 then (if bt218.1.toList = ([48, 46, 51, 51, 51, 51, 51] : List UInt8) then (if bt218.2 = 0 then (if bt220.1 = (-32768) then (if bt220.2 = 0 then (if bt222.1 = 65536 then (if bt222.2.1 = 0 then (if bt222.2.2 = 0 then (if bt225.1 = (-7) then (if bt225.2.1 = 5 then (some (bt225.2.2 == 0)) else (some false)) else (some false)) else (some false)) else (some false)) else (some false)) else (some false)) else (some false)) else (some false)) else (some false)) else (some false)) else (some false)) else (some false)) else (some false)) else (some false)) else (some false)) else (some false)) else (some false)) else (some false)) else (some false)) else (some false)) else (some false)) else (some false)) else (some false)) else (some false)) else (some false)) else (some false))))))))) = some true := H
  have A5 := Aside0.mk A50
  clear A50
  replace H := Option.bind_eq_some_iff.mp H
  obtain ⟨⟨t212, t213⟩, A60, H⟩ := H
  replace H : ((fix_Arg.f k (-5) 0).bind fun bt214 => ((fix_Arg.f k 0 (-2)).bind fun bt216 => ((fix_Text.f k 21845).bind fun bt218 => ((fix_Parse.f k (⟨#[45, 46, 53]⟩ : ByteArray)).bind fun bt220 => ((fix_Dir.f k 0).bind fun bt222 => ((fix_Turn.f k 5 7 94371840).bind fun bt225 => (if t201 = 147456 then (if t202 = 0 then (if t203 = 21845 then (if t204 = 0 then (if t205 = 92682 then (if t206 = 0 then (if t207 = 5 then (if t208 = 0 then (if t209 = 268435456 then (if t210 = 0 then (if t211 = 0 then (if t212 = 47185920 then (if t213 = 0 then (if bt214.1 = 188743680 then (if bt214.2 = 0 then (if bt216.1 = (-94371840) then (if bt216.2 = 0 then (if bt218.1.toList = ([48, 46, 51, 51, 51, 51, 51] : List UInt8) then (if bt218.2 = 0 then (if bt220.1 = (-32768) then (if bt220.2 = 0 then (if bt222.1 = 65536 then (if bt222.2.1 = 0 then (if bt222.2.2 = 0 then (if bt225.1 = (-7) then (if bt225.2.1 = 5 then (some (bt225.2.2 == 0)) else (some false)) else (some false)) else (some false)) else (some false)) else (some false)) else (some false)) else (some false)) else (some false)) else (some false)) else (some false)) else (some false)) else (some false)) else (some false)) else (some false)) else (some false)) else (some false)) else (some false)) else (some false)) else (some false)) else (some false)) else (some false)) else (some false)) else (some false)) else (some false)) else (some false)) else (some false)))))))) = some true := H
  have A6 := Aside0.mk A60
  clear A60
  replace H := Option.bind_eq_some_iff.mp H
  obtain ⟨⟨t214, t215⟩, A70, H⟩ := H
  replace H : ((fix_Arg.f k 0 (-2)).bind fun bt216 => ((fix_Text.f k 21845).bind fun bt218 => ((fix_Parse.f k (⟨#[45, 46, 53]⟩ : ByteArray)).bind fun bt220 => ((fix_Dir.f k 0).bind fun bt222 => ((fix_Turn.f k 5 7 94371840).bind fun bt225 => (if t201 = 147456 then (if t202 = 0 then (if t203 = 21845 then (if t204 = 0 then (if t205 = 92682 then (if t206 = 0 then (if t207 = 5 then (if t208 = 0 then (if t209 = 268435456 then (if t210 = 0 then (if t211 = 0 then (if t212 = 47185920 then (if t213 = 0 then (if t214 = 188743680 then (if t215 = 0 then (if bt216.1 = (-94371840) then (if bt216.2 = 0 then (if bt218.1.toList = ([48, 46, 51, 51, 51, 51, 51] : List UInt8) then (if bt218.2 = 0 then (if bt220.1 = (-32768) then (if bt220.2 = 0 then (if bt222.1 = 65536 then (if bt222.2.1 = 0 then (if bt222.2.2 = 0 then (if bt225.1 = (-7) then (if bt225.2.1 = 5 then (some (bt225.2.2 == 0)) else (some false)) else (some false)) else (some false)) else (some false)) else (some false)) else (some false)) else (some false)) else (some false)) else (some false)) else (some false)) else (some false)) else (some false)) else (some false)) else (some false)) else (some false)) else (some false)) else (some false)) else (some false)) else (some false)) else (some false)) else (some false)) else (some false)) else (some false)) else (some false)) else (some false)) else (some false))))))) = some true := H
  have A7 := Aside0.mk A70
  clear A70
  replace H := Option.bind_eq_some_iff.mp H
  obtain ⟨⟨t216, t217⟩, A80, H⟩ := H
  replace H : ((fix_Text.f k 21845).bind fun bt218 => ((fix_Parse.f k (⟨#[45, 46, 53]⟩ : ByteArray)).bind fun bt220 => ((fix_Dir.f k 0).bind fun bt222 => ((fix_Turn.f k 5 7 94371840).bind fun bt225 => (if t201 = 147456 then (if t202 = 0 then (if t203 = 21845 then (if t204 = 0 then (if t205 = 92682 then (if t206 = 0 then (if t207 = 5 then (if t208 = 0 then (if t209 = 268435456 then (if t210 = 0 then (if t211 = 0 then (if t212 = 47185920 then (if t213 = 0 then (if t214 = 188743680 then (if t215 = 0 then (if t216 = (-94371840) then (if t217 = 0 then (if bt218.1.toList = ([48, 46, 51, 51, 51, 51, 51] : List UInt8) then (if bt218.2 = 0 then (if bt220.1 = (-32768) then (if bt220.2 = 0 then (if bt222.1 = 65536 then (if bt222.2.1 = 0 then (if bt222.2.2 = 0 then (if bt225.1 = (-7) then (if bt225.2.1 = 5 then (some (bt225.2.2 == 0)) else (some false)) else (some false)) else (some false)) else (some false)) else (some false)) else (some false)) else (some false)) else (some false)) else (some false)) else (some false)) else (some false)) else (some false)) else (some false)) else (some false)) else (some false)) else (some false)) else (some false)) else (some false)) else (some false)) else (some false)) else (some false)) else (some false)) else (some false)) else (some false)) else (some false)) else (some false)))))) = some true := H
  have A8 := Aside0.mk A80
  clear A80
  replace H := Option.bind_eq_some_iff.mp H
  obtain ⟨⟨t218, t219⟩, A90, H⟩ := H
  replace H : ((fix_Parse.f k (⟨#[45, 46, 53]⟩ : ByteArray)).bind fun bt220 => ((fix_Dir.f k 0).bind fun bt222 => ((fix_Turn.f k 5 7 94371840).bind fun bt225 => (if t201 = 147456 then (if t202 = 0 then (if t203 = 21845 then (if t204 = 0 then (if t205 = 92682 then (if t206 = 0 then (if t207 = 5 then (if t208 = 0 then (if t209 = 268435456 then (if t210 = 0 then (if t211 = 0 then (if t212 = 47185920 then (if t213 = 0 then (if t214 = 188743680 then (if t215 = 0 then (if t216 = (-94371840) then (if t217 = 0 then (if t218.toList = ([48, 46, 51, 51, 51, 51, 51] : List UInt8) then (if t219 = 0 then (if bt220.1 = (-32768) then (if bt220.2 = 0 then (if bt222.1 = 65536 then (if bt222.2.1 = 0 then (if bt222.2.2 = 0 then (if bt225.1 = (-7) then (if bt225.2.1 = 5 then (some (bt225.2.2 == 0)) else (some false)) else (some false)) else (some false)) else (some false)) else (some false)) else (some false)) else (some false)) else (some false)) else (some false)) else (some false)) else (some false)) else (some false)) else (some false)) else (some false)) else (some false)) else (some false)) else (some false)) else (some false)) else (some false)) else (some false)) else (some false)) else (some false)) else (some false)) else (some false)) else (some false)) else (some false))))) = some true := H
  have A9 := Aside0.mk A90
  clear A90
  replace H := Option.bind_eq_some_iff.mp H
  obtain ⟨⟨t220, t221⟩, A100, H⟩ := H
  replace H : ((fix_Dir.f k 0).bind fun bt222 => ((fix_Turn.f k 5 7 94371840).bind fun bt225 => (if t201 = 147456 then (if t202 = 0 then (if t203 = 21845 then (if t204 = 0 then (if t205 = 92682 then (if t206 = 0 then (if t207 = 5 then (if t208 = 0 then (if t209 = 268435456 then (if t210 = 0 then (if t211 = 0 then (if t212 = 47185920 then (if t213 = 0 then (if t214 = 188743680 then (if t215 = 0 then (if t216 = (-94371840) then (if t217 = 0 then (if t218.toList = ([48, 46, 51, 51, 51, 51, 51] : List UInt8) then (if t219 = 0 then (if t220 = (-32768) then (if t221 = 0 then (if bt222.1 = 65536 then (if bt222.2.1 = 0 then (if bt222.2.2 = 0 then (if bt225.1 = (-7) then (if bt225.2.1 = 5 then (some (bt225.2.2 == 0)) else (some false)) else (some false)) else (some false)) else (some false)) else (some false)) else (some false)) else (some false)) else (some false)) else (some false)) else (some false)) else (some false)) else (some false)) else (some false)) else (some false)) else (some false)) else (some false)) else (some false)) else (some false)) else (some false)) else (some false)) else (some false)) else (some false)) else (some false)) else (some false)) else (some false)) else (some false)))) = some true := H
  have A10 := Aside0.mk A100
  clear A100
  replace H := Option.bind_eq_some_iff.mp H
  obtain ⟨⟨t222, t223, t224⟩, A110, H⟩ := H
  replace H : ((fix_Turn.f k 5 7 94371840).bind fun bt225 => (if t201 = 147456 then (if t202 = 0 then (if t203 = 21845 then (if t204 = 0 then (if t205 = 92682 then (if t206 = 0 then (if t207 = 5 then (if t208 = 0 then (if t209 = 268435456 then (if t210 = 0 then (if t211 = 0 then (if t212 = 47185920 then (if t213 = 0 then (if t214 = 188743680 then (if t215 = 0 then (if t216 = (-94371840) then (if t217 = 0 then (if t218.toList = ([48, 46, 51, 51, 51, 51, 51] : List UInt8) then (if t219 = 0 then (if t220 = (-32768) then (if t221 = 0 then (if t222 = 65536 then (if t223 = 0 then (if t224 = 0 then (if bt225.1 = (-7) then (if bt225.2.1 = 5 then (some (bt225.2.2 == 0)) else (some false)) else (some false)) else (some false)) else (some false)) else (some false)) else (some false)) else (some false)) else (some false)) else (some false)) else (some false)) else (some false)) else (some false)) else (some false)) else (some false)) else (some false)) else (some false)) else (some false)) else (some false)) else (some false)) else (some false)) else (some false)) else (some false)) else (some false)) else (some false)) else (some false)) else (some false))) = some true := H
  have A11 := Aside0.mk A110
  clear A110
  replace H := Option.bind_eq_some_iff.mp H
  obtain ⟨⟨t225, t226, t227⟩, A120, H⟩ := H
  replace H : (if t201 = 147456 then (if t202 = 0 then (if t203 = 21845 then (if t204 = 0 then (if t205 = 92682 then (if t206 = 0 then (if t207 = 5 then (if t208 = 0 then (if t209 = 268435456 then (if t210 = 0 then (if t211 = 0 then (if t212 = 47185920 then (if t213 = 0 then (if t214 = 188743680 then (if t215 = 0 then (if t216 = (-94371840) then (if t217 = 0 then (if t218.toList = ([48, 46, 51, 51, 51, 51, 51] : List UInt8) then (if t219 = 0 then (if t220 = (-32768) then (if t221 = 0 then (if t222 = 65536 then (if t223 = 0 then (if t224 = 0 then (if t225 = (-7) then (if t226 = 5 then (some (t227 == 0)) else (some false)) else (some false)) else (some false)) else (some false)) else (some false)) else (some false)) else (some false)) else (some false)) else (some false)) else (some false)) else (some false)) else (some false)) else (some false)) else (some false)) else (some false)) else (some false)) else (some false)) else (some false)) else (some false)) else (some false)) else (some false)) else (some false)) else (some false)) else (some false)) else (some false)) else (some false)) = some true := H
  have A12 := Aside0.mk A120
  clear A120
  by_cases c13 : t201 = 147456
  · rw [if_pos c13] at H
    have c13b0 : (t201 == 147456) = true := beq_iff_eq.mpr c13
    have c13b1 : (t201 != 147456) = false := bne_eq_false_iff_eq.mpr c13
    clear c13
    by_cases c14 : t202 = 0
    · rw [if_pos c14] at H
      have c14b0 : (t202 == 0) = true := beq_iff_eq.mpr c14
      have c14b1 : (t202 != 0) = false := bne_eq_false_iff_eq.mpr c14
      clear c14
      by_cases c15 : t203 = 21845
      · rw [if_pos c15] at H
        have c15b0 : (t203 == 21845) = true := beq_iff_eq.mpr c15
        have c15b1 : (t203 != 21845) = false := bne_eq_false_iff_eq.mpr c15
        clear c15
        by_cases c16 : t204 = 0
        · rw [if_pos c16] at H
          have c16b0 : (t204 == 0) = true := beq_iff_eq.mpr c16
          have c16b1 : (t204 != 0) = false := bne_eq_false_iff_eq.mpr c16
          clear c16
          by_cases c17 : t205 = 92682
          · rw [if_pos c17] at H
            have c17b0 : (t205 == 92682) = true := beq_iff_eq.mpr c17
            have c17b1 : (t205 != 92682) = false := bne_eq_false_iff_eq.mpr c17
            clear c17
            by_cases c18 : t206 = 0
            · rw [if_pos c18] at H
              have c18b0 : (t206 == 0) = true := beq_iff_eq.mpr c18
              have c18b1 : (t206 != 0) = false := bne_eq_false_iff_eq.mpr c18
              clear c18
              by_cases c19 : t207 = 5
              · rw [if_pos c19] at H
                have c19b0 : (t207 == 5) = true := beq_iff_eq.mpr c19
                have c19b1 : (t207 != 5) = false := bne_eq_false_iff_eq.mpr c19
                clear c19
                by_cases c20 : t208 = 0
                · rw [if_pos c20] at H
                  have c20b0 : (t208 == 0) = true := beq_iff_eq.mpr c20
                  have c20b1 : (t208 != 0) = false := bne_eq_false_iff_eq.mpr c20
                  clear c20
                  by_cases c21 : t209 = 268435456
                  · rw [if_pos c21] at H
                    have c21b0 : (t209 == 268435456) = true := beq_iff_eq.mpr c21
                    have c21b1 : (t209 != 268435456) = false := bne_eq_false_iff_eq.mpr c21
                    clear c21
                    by_cases c22 : t210 = 0
                    · rw [if_pos c22] at H
                      have c22b0 : (t210 == 0) = true := beq_iff_eq.mpr c22
                      have c22b1 : (t210 != 0) = false := bne_eq_false_iff_eq.mpr c22
                      clear c22
                      by_cases c23 : t211 = 0
                      · rw [if_pos c23] at H
                        have c23b0 : (t211 == 0) = true := beq_iff_eq.mpr c23
                        have c23b1 : (t211 != 0) = false := bne_eq_false_iff_eq.mpr c23
                        clear c23
                        by_cases c24 : t212 = 47185920
                        · rw [if_pos c24] at H
                          have c24b0 : (t212 == 47185920) = true := beq_iff_eq.mpr c24
                          have c24b1 : (t212 != 47185920) = false := bne_eq_false_iff_eq.mpr c24
                          clear c24
                          by_cases c25 : t213 = 0
                          · rw [if_pos c25] at H
                            have c25b0 : (t213 == 0) = true := beq_iff_eq.mpr c25
                            have c25b1 : (t213 != 0) = false := bne_eq_false_iff_eq.mpr c25
                            clear c25
                            by_cases c26 : t214 = 188743680
                            · rw [if_pos c26] at H
                              have c26b0 : (t214 == 188743680) = true := beq_iff_eq.mpr c26
                              have c26b1 : (t214 != 188743680) = false := bne_eq_false_iff_eq.mpr c26
                              clear c26
                              by_cases c27 : t215 = 0
                              · rw [if_pos c27] at H
                                have c27b0 : (t215 == 0) = true := beq_iff_eq.mpr c27
                                have c27b1 : (t215 != 0) = false := bne_eq_false_iff_eq.mpr c27
                                clear c27
                                by_cases c28 : t216 = (-94371840)
                                · rw [if_pos c28] at H
                                  have c28b0 : (t216 == (-94371840)) = true := beq_iff_eq.mpr c28
                                  have c28b1 : (t216 != (-94371840)) = false := bne_eq_false_iff_eq.mpr c28
                                  clear c28
                                  by_cases c29 : t217 = 0
                                  · rw [if_pos c29] at H
                                    have c29b0 : (t217 == 0) = true := beq_iff_eq.mpr c29
                                    have c29b1 : (t217 != 0) = false := bne_eq_false_iff_eq.mpr c29
                                    clear c29
                                    by_cases c30 : t218.toList = ([48, 46, 51, 51, 51, 51, 51] : List UInt8)
                                    · rw [if_pos c30] at H
                                      have c30b0 : (t218.toList == ([48, 46, 51, 51, 51, 51, 51] : List UInt8)) = true := beq_iff_eq.mpr c30
                                      have c30b1 : (t218.toList != ([48, 46, 51, 51, 51, 51, 51] : List UInt8)) = false := bne_eq_false_iff_eq.mpr c30
                                      clear c30
                                      by_cases c31 : t219 = 0
                                      · rw [if_pos c31] at H
                                        have c31b0 : (t219 == 0) = true := beq_iff_eq.mpr c31
                                        have c31b1 : (t219 != 0) = false := bne_eq_false_iff_eq.mpr c31
                                        clear c31
                                        by_cases c32 : t220 = (-32768)
                                        · rw [if_pos c32] at H
                                          have c32b0 : (t220 == (-32768)) = true := beq_iff_eq.mpr c32
                                          have c32b1 : (t220 != (-32768)) = false := bne_eq_false_iff_eq.mpr c32
                                          clear c32
                                          by_cases c33 : t221 = 0
                                          · rw [if_pos c33] at H
                                            have c33b0 : (t221 == 0) = true := beq_iff_eq.mpr c33
                                            have c33b1 : (t221 != 0) = false := bne_eq_false_iff_eq.mpr c33
                                            clear c33
                                            by_cases c34 : t222 = 65536
                                            · rw [if_pos c34] at H
                                              have c34b0 : (t222 == 65536) = true := beq_iff_eq.mpr c34
                                              have c34b1 : (t222 != 65536) = false := bne_eq_false_iff_eq.mpr c34
                                              clear c34
                                              by_cases c35 : t223 = 0
                                              · rw [if_pos c35] at H
                                                have c35b0 : (t223 == 0) = true := beq_iff_eq.mpr c35
                                                have c35b1 : (t223 != 0) = false := bne_eq_false_iff_eq.mpr c35
                                                clear c35
                                                by_cases c36 : t224 = 0
                                                · rw [if_pos c36] at H
                                                  have c36b0 : (t224 == 0) = true := beq_iff_eq.mpr c36
                                                  have c36b1 : (t224 != 0) = false := bne_eq_false_iff_eq.mpr c36
                                                  clear c36
                                                  by_cases c37 : t225 = (-7)
                                                  · rw [if_pos c37] at H
                                                    have c37b0 : (t225 == (-7)) = true := beq_iff_eq.mpr c37
                                                    have c37b1 : (t225 != (-7)) = false := bne_eq_false_iff_eq.mpr c37
                                                    clear c37
                                                    by_cases c38 : t226 = 5
                                                    · rw [if_pos c38] at H
                                                      have c38b0 : (t226 == 5) = true := beq_iff_eq.mpr c38
                                                      have c38b1 : (t226 != 5) = false := bne_eq_false_iff_eq.mpr c38
                                                      clear c38
                                                      have hr_ := Option.some.inj H
                                                      clear H
                                                      go_enter Tryd.func8, Tryd.ntmps8
                                                      go_wp2_with (first | ((with_reducible refine gate_callee (f := 15) rfl ?_); refine goesL_ (some 29) rfl rfl Tryd.func15 (by kernel_rfl) rfl #[.int .i64 98304, .int .i64 98304] rfl (by (try simp only [List.map_toArray, List.map_cons, List.map_nil]); first | done | rfl | (simp only [List.length_drop, List.length_take]; rfl)) ?_; (with_reducible refine (fix_Mul.calls k 98304 98304 t201 t202 _ A1.out).mono ?_); rintro e w39 ⟨rfl, hb⟩; refine ⟨_, rfl, ?_⟩; have n0_ := Aside0.mk (below_step (by repeat (first | (with_reducible first | exact HB.out | apply below_alloc | apply pw_below_drewN | apply below_drew1) | exact HB.out)) hb); clear HB; have HB := n0_; clear n0_; (try clear hb); (try clear hb2); (try clear hk); (try clear hi)) | ((with_reducible refine gate_callee (f := 16) rfl ?_); refine goesL_ (some 33) rfl rfl Tryd.func16 (by kernel_rfl) rfl #[.int .i64 65536, .int .i64 196608] rfl (by (try simp only [List.map_toArray, List.map_cons, List.map_nil]); first | done | rfl | (simp only [List.length_drop, List.length_take]; rfl)) ?_; (with_reducible refine (fix_Div.calls k 65536 196608 t203 t204 _ A2.out).mono ?_); rintro e w40 ⟨rfl, hb⟩; refine ⟨_, rfl, ?_⟩; have n0_ := Aside0.mk (below_step (by repeat (first | (with_reducible first | exact HB.out | apply below_alloc | apply pw_below_drewN | apply below_drew1) | exact HB.out)) hb); clear HB; have HB := n0_; clear n0_; (try clear hb); (try clear hb2); (try clear hk); (try clear hi)) | ((with_reducible refine gate_callee (f := 10) rfl ?_); refine goesL_ (some 37) rfl rfl Tryd.func10 (by kernel_rfl) rfl #[.int .i64 131072] rfl (by (try simp only [List.map_toArray, List.map_cons, List.map_nil]); first | done | rfl | (simp only [List.length_drop, List.length_take]; rfl)) ?_; (with_reducible refine (fix_Sqrt.calls k 131072 t205 t206 _ A3.out).mono ?_); rintro e w41 ⟨rfl, hb⟩; refine ⟨_, rfl, ?_⟩; have n0_ := Aside0.mk (below_step (by repeat (first | (with_reducible first | exact HB.out | apply below_alloc | apply pw_below_drewN | apply below_drew1) | exact HB.out)) hb); clear HB; have HB := n0_; clear n0_; (try clear hb); (try clear hb2); (try clear hk); (try clear hi)) | ((with_reducible refine gate_callee (f := 9) rfl ?_); refine goesL_ (some 41) rfl rfl Tryd.func9 (by kernel_rfl) rfl #[.int .i64 3, .int .i64 4] rfl (by (try simp only [List.map_toArray, List.map_cons, List.map_nil]); first | done | rfl | (simp only [List.length_drop, List.length_take]; rfl)) ?_; (with_reducible refine (fix_Hypot.calls k 3 4 t207 t208 _ A4.out).mono ?_); rintro e w42 ⟨rfl, hb⟩; refine ⟨_, rfl, ?_⟩; have n0_ := Aside0.mk (below_step (by repeat (first | (with_reducible first | exact HB.out | apply below_alloc | apply pw_below_drewN | apply below_drew1) | exact HB.out)) hb); clear HB; have HB := n0_; clear n0_; (try clear hb); (try clear hb2); (try clear hk); (try clear hi)) | ((with_reducible refine gate_callee (f := 7) rfl ?_); refine goesL_ (some 45) rfl rfl Tryd.func7 (by kernel_rfl) rfl #[.int .i64 94371840] rfl (by (try simp only [List.map_toArray, List.map_cons, List.map_nil]); first | done | rfl | (simp only [List.length_drop, List.length_take]; rfl)) ?_; (with_reducible refine (fix_Sine.calls k 94371840 t209 t210 t211 _ A5.out).mono ?_); rintro e w43 ⟨rfl, hb⟩; refine ⟨_, rfl, ?_⟩; have n0_ := Aside0.mk (below_step (by repeat (first | (with_reducible first | exact HB.out | apply below_alloc | apply pw_below_drewN | apply below_drew1) | exact HB.out)) hb); clear HB; have HB := n0_; clear n0_; (try clear hb); (try clear hb2); (try clear hk); (try clear hi)) | ((with_reducible refine gate_callee (f := 17) rfl ?_); refine goesL_ (some 50) rfl rfl Tryd.func17 (by kernel_rfl) rfl #[.int .i64 1, .int .i64 1] rfl (by (try simp only [List.map_toArray, List.map_cons, List.map_nil]); first | done | rfl | (simp only [List.length_drop, List.length_take]; rfl)) ?_; (with_reducible refine (fix_Arg.calls k 1 1 t212 t213 _ A6.out).mono ?_); rintro e w44 ⟨rfl, hb⟩; refine ⟨_, rfl, ?_⟩; have n0_ := Aside0.mk (below_step (by repeat (first | (with_reducible first | exact HB.out | apply below_alloc | apply pw_below_drewN | apply below_drew1) | exact HB.out)) hb); clear HB; have HB := n0_; clear n0_; (try clear hb); (try clear hb2); (try clear hk); (try clear hi)) | ((with_reducible refine gate_callee (f := 17) rfl ?_); refine goesL_ (some 54) rfl rfl Tryd.func17 (by kernel_rfl) rfl #[.int .i64 (-5), .int .i64 0] rfl (by (try simp only [List.map_toArray, List.map_cons, List.map_nil]); first | done | rfl | (simp only [List.length_drop, List.length_take]; rfl)) ?_; (with_reducible refine (fix_Arg.calls k (-5) 0 t214 t215 _ A7.out).mono ?_); rintro e w45 ⟨rfl, hb⟩; refine ⟨_, rfl, ?_⟩; have n0_ := Aside0.mk (below_step (by repeat (first | (with_reducible first | exact HB.out | apply below_alloc | apply pw_below_drewN | apply below_drew1) | exact HB.out)) hb); clear HB; have HB := n0_; clear n0_; (try clear hb); (try clear hb2); (try clear hk); (try clear hi)) | ((with_reducible refine gate_callee (f := 17) rfl ?_); refine goesL_ (some 58) rfl rfl Tryd.func17 (by kernel_rfl) rfl #[.int .i64 0, .int .i64 (-2)] rfl (by (try simp only [List.map_toArray, List.map_cons, List.map_nil]); first | done | rfl | (simp only [List.length_drop, List.length_take]; rfl)) ?_; (with_reducible refine (fix_Arg.calls k 0 (-2) t216 t217 _ A8.out).mono ?_); rintro e w46 ⟨rfl, hb⟩; refine ⟨_, rfl, ?_⟩; have n0_ := Aside0.mk (below_step (by repeat (first | (with_reducible first | exact HB.out | apply below_alloc | apply pw_below_drewN | apply below_drew1) | exact HB.out)) hb); clear HB; have HB := n0_; clear n0_; (try clear hb); (try clear hb2); (try clear hk); (try clear hi)) | ((with_reducible refine gate_callee (f := 11) rfl ?_); refine goesL_ (some 62) rfl rfl Tryd.func11 (by kernel_rfl) rfl #[.int .i64 21845] rfl (by (try simp only [List.map_toArray, List.map_cons, List.map_nil]); first | done | rfl | (simp only [List.length_drop, List.length_take]; rfl)) ?_; (with_reducible refine (fix_Text.calls k 21845 t218 t219 _ ?side1 A9.out).mono ?_); (case side1 => exact LaidOK.below HT_.out (by repeat (first | (with_reducible first | exact HB.out | apply below_alloc | apply pw_below_drewN | apply below_drew1) | exact HB.out))); rintro e w47 ⟨rfl, hb⟩; refine ⟨_, rfl, ?_⟩; have n0_ := Aside0.mk (below_step (by repeat (first | (with_reducible first | exact HB.out | apply below_alloc | apply pw_below_drewN | apply below_drew1) | exact HB.out)) hb); clear HB; have HB := n0_; clear n0_; (try clear hb); (try clear hb2); (try clear hk); (try clear hi)) | ((with_reducible refine gate_callee (f := 12) rfl ?_); refine goesL_ (some 66) rfl rfl Tryd.func12 (by kernel_rfl) rfl #[.string (⟨#[45, 46, 53]⟩ : ByteArray)] rfl (by (try simp only [List.map_toArray, List.map_cons, List.map_nil]); first | done | rfl | (simp only [List.length_drop, List.length_take]; rfl)) ?_; (with_reducible refine (fix_Parse.calls k (⟨#[45, 46, 53]⟩ : ByteArray) t220 t221 _ ?side1 A10.out).mono ?_); (case side1 => exact LaidOK.below HT_.out (by repeat (first | (with_reducible first | exact HB.out | apply below_alloc | apply pw_below_drewN | apply below_drew1) | exact HB.out))); rintro e w48 ⟨rfl, hb⟩; refine ⟨_, rfl, ?_⟩; have n0_ := Aside0.mk (below_step (by repeat (first | (with_reducible first | exact HB.out | apply below_alloc | apply pw_below_drewN | apply below_drew1) | exact HB.out)) hb); clear HB; have HB := n0_; clear n0_; (try clear hb); (try clear hb2); (try clear hk); (try clear hi)) | ((with_reducible refine gate_callee (f := 18) rfl ?_); refine goesL_ (some 70) rfl rfl Tryd.func18 (by kernel_rfl) rfl #[.int .i64 0] rfl (by (try simp only [List.map_toArray, List.map_cons, List.map_nil]); first | done | rfl | (simp only [List.length_drop, List.length_take]; rfl)) ?_; (with_reducible refine (fix_Dir.calls k 0 t222 t223 t224 _ A11.out).mono ?_); rintro e w49 ⟨rfl, hb⟩; refine ⟨_, rfl, ?_⟩; have n0_ := Aside0.mk (below_step (by repeat (first | (with_reducible first | exact HB.out | apply below_alloc | apply pw_below_drewN | apply below_drew1) | exact HB.out)) hb); clear HB; have HB := n0_; clear n0_; (try clear hb); (try clear hb2); (try clear hk); (try clear hi)) | ((with_reducible refine gate_callee (f := 13) rfl ?_); refine goesL_ (some 75) rfl rfl Tryd.func13 (by kernel_rfl) rfl #[.int .i64 5, .int .i64 7, .int .i64 94371840] rfl (by (try simp only [List.map_toArray, List.map_cons, List.map_nil]); first | done | rfl | (simp only [List.length_drop, List.length_take]; rfl)) ?_; (with_reducible refine (fix_Turn.calls k 5 7 94371840 t225 t226 t227 _ A12.out).mono ?_); rintro e w50 ⟨rfl, hb⟩; refine ⟨_, rfl, ?_⟩; have n0_ := Aside0.mk (below_step (by repeat (first | (with_reducible first | exact HB.out | apply below_alloc | apply pw_below_drewN | apply below_drew1) | exact HB.out)) hb); clear HB; have HB := n0_; clear n0_; (try clear hb); (try clear hb2); (try clear hk); (try clear hi)))
                                                      go_ret
                                                      exact ⟨by first | rfl | (simp [errW_none, errW_some] <;> rfl) | (simp [*, errW_none, errW_some] <;> rfl), by repeat (first | (with_reducible first | exact HB.out | apply below_alloc | apply pw_below_drewN | apply below_drew1) | exact HB.out)⟩
                                                    · rw [if_neg c38] at H
                                                      have c38b0 : (t226 == 5) = false := beq_eq_false_iff_ne.mpr c38
                                                      have c38b1 : (t226 != 5) = true := bne_iff_ne.mpr c38
                                                      exact absurd H (by simp)
                                                  · rw [if_neg c37] at H
                                                    have c37b0 : (t225 == (-7)) = false := beq_eq_false_iff_ne.mpr c37
                                                    have c37b1 : (t225 != (-7)) = true := bne_iff_ne.mpr c37
                                                    exact absurd H (by simp)
                                                · rw [if_neg c36] at H
                                                  have c36b0 : (t224 == 0) = false := beq_eq_false_iff_ne.mpr c36
                                                  have c36b1 : (t224 != 0) = true := bne_iff_ne.mpr c36
                                                  exact absurd H (by simp)
                                              · rw [if_neg c35] at H
                                                have c35b0 : (t223 == 0) = false := beq_eq_false_iff_ne.mpr c35
                                                have c35b1 : (t223 != 0) = true := bne_iff_ne.mpr c35
                                                exact absurd H (by simp)
                                            · rw [if_neg c34] at H
                                              have c34b0 : (t222 == 65536) = false := beq_eq_false_iff_ne.mpr c34
                                              have c34b1 : (t222 != 65536) = true := bne_iff_ne.mpr c34
                                              exact absurd H (by simp)
                                          · rw [if_neg c33] at H
                                            have c33b0 : (t221 == 0) = false := beq_eq_false_iff_ne.mpr c33
                                            have c33b1 : (t221 != 0) = true := bne_iff_ne.mpr c33
                                            exact absurd H (by simp)
                                        · rw [if_neg c32] at H
                                          have c32b0 : (t220 == (-32768)) = false := beq_eq_false_iff_ne.mpr c32
                                          have c32b1 : (t220 != (-32768)) = true := bne_iff_ne.mpr c32
                                          exact absurd H (by simp)
                                      · rw [if_neg c31] at H
                                        have c31b0 : (t219 == 0) = false := beq_eq_false_iff_ne.mpr c31
                                        have c31b1 : (t219 != 0) = true := bne_iff_ne.mpr c31
                                        exact absurd H (by simp)
                                    · rw [if_neg c30] at H
                                      have c30b0 : (t218.toList == ([48, 46, 51, 51, 51, 51, 51] : List UInt8)) = false := beq_eq_false_iff_ne.mpr c30
                                      have c30b1 : (t218.toList != ([48, 46, 51, 51, 51, 51, 51] : List UInt8)) = true := bne_iff_ne.mpr c30
                                      exact absurd H (by simp)
                                  · rw [if_neg c29] at H
                                    have c29b0 : (t217 == 0) = false := beq_eq_false_iff_ne.mpr c29
                                    have c29b1 : (t217 != 0) = true := bne_iff_ne.mpr c29
                                    exact absurd H (by simp)
                                · rw [if_neg c28] at H
                                  have c28b0 : (t216 == (-94371840)) = false := beq_eq_false_iff_ne.mpr c28
                                  have c28b1 : (t216 != (-94371840)) = true := bne_iff_ne.mpr c28
                                  exact absurd H (by simp)
                              · rw [if_neg c27] at H
                                have c27b0 : (t215 == 0) = false := beq_eq_false_iff_ne.mpr c27
                                have c27b1 : (t215 != 0) = true := bne_iff_ne.mpr c27
                                exact absurd H (by simp)
                            · rw [if_neg c26] at H
                              have c26b0 : (t214 == 188743680) = false := beq_eq_false_iff_ne.mpr c26
                              have c26b1 : (t214 != 188743680) = true := bne_iff_ne.mpr c26
                              exact absurd H (by simp)
                          · rw [if_neg c25] at H
                            have c25b0 : (t213 == 0) = false := beq_eq_false_iff_ne.mpr c25
                            have c25b1 : (t213 != 0) = true := bne_iff_ne.mpr c25
                            exact absurd H (by simp)
                        · rw [if_neg c24] at H
                          have c24b0 : (t212 == 47185920) = false := beq_eq_false_iff_ne.mpr c24
                          have c24b1 : (t212 != 47185920) = true := bne_iff_ne.mpr c24
                          exact absurd H (by simp)
                      · rw [if_neg c23] at H
                        have c23b0 : (t211 == 0) = false := beq_eq_false_iff_ne.mpr c23
                        have c23b1 : (t211 != 0) = true := bne_iff_ne.mpr c23
                        exact absurd H (by simp)
                    · rw [if_neg c22] at H
                      have c22b0 : (t210 == 0) = false := beq_eq_false_iff_ne.mpr c22
                      have c22b1 : (t210 != 0) = true := bne_iff_ne.mpr c22
                      exact absurd H (by simp)
                  · rw [if_neg c21] at H
                    have c21b0 : (t209 == 268435456) = false := beq_eq_false_iff_ne.mpr c21
                    have c21b1 : (t209 != 268435456) = true := bne_iff_ne.mpr c21
                    exact absurd H (by simp)
                · rw [if_neg c20] at H
                  have c20b0 : (t208 == 0) = false := beq_eq_false_iff_ne.mpr c20
                  have c20b1 : (t208 != 0) = true := bne_iff_ne.mpr c20
                  exact absurd H (by simp)
              · rw [if_neg c19] at H
                have c19b0 : (t207 == 5) = false := beq_eq_false_iff_ne.mpr c19
                have c19b1 : (t207 != 5) = true := bne_iff_ne.mpr c19
                exact absurd H (by simp)
            · rw [if_neg c18] at H
              have c18b0 : (t206 == 0) = false := beq_eq_false_iff_ne.mpr c18
              have c18b1 : (t206 != 0) = true := bne_iff_ne.mpr c18
              exact absurd H (by simp)
          · rw [if_neg c17] at H
            have c17b0 : (t205 == 92682) = false := beq_eq_false_iff_ne.mpr c17
            have c17b1 : (t205 != 92682) = true := bne_iff_ne.mpr c17
            exact absurd H (by simp)
        · rw [if_neg c16] at H
          have c16b0 : (t204 == 0) = false := beq_eq_false_iff_ne.mpr c16
          have c16b1 : (t204 != 0) = true := bne_iff_ne.mpr c16
          exact absurd H (by simp)
      · rw [if_neg c15] at H
        have c15b0 : (t203 == 21845) = false := beq_eq_false_iff_ne.mpr c15
        have c15b1 : (t203 != 21845) = true := bne_iff_ne.mpr c15
        exact absurd H (by simp)
    · rw [if_neg c14] at H
      have c14b0 : (t202 == 0) = false := beq_eq_false_iff_ne.mpr c14
      have c14b1 : (t202 != 0) = true := bne_iff_ne.mpr c14
      exact absurd H (by simp)
  · rw [if_neg c13] at H
    have c13b0 : (t201 == 147456) = false := beq_eq_false_iff_ne.mpr c13
    have c13b1 : (t201 != 147456) = true := bne_iff_ne.mpr c13
    exact absurd H (by simp)

end Go.Proofs.YtjaifahodfljkaaDoor.Z
