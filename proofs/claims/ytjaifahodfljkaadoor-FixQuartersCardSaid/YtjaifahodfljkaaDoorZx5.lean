/- Laid by program (this session's, over the kit's print): functions of this seat as plain Lean functions, each with its contract. -/
import Derived.Test.YtjaifahodfljkaaDoorZx0
import Derived.Test.YtjaifahodfljkaaDoorZx1
import Derived.Test.YtjaifahodfljkaaDoorZx4
namespace Go.Proofs.YtjaifahodfljkaaDoor.Z
open Go.RowKit Go.Proofs.YtjaifahodfljkaaDoorW.PrintWords Go.Proofs.YtjaifahodfljkaaDoorW.PrintLast Go.Proofs.YtjaifahodfljkaaDoorW.PrintMore
attribute [local go_sem] max2_int min2_int max_two min_two max_three min_three max_four min_four   -- for this text's walks alone
set_option linter.unusedVariables false
set_option linter.unusedSimpArgs false

/-! ### fleuronlaw02_FixQuarters: function 3 -/
mutual
def fleuronlaw02_FixQuarters.j0 : Nat → Int → Int → Int → Bool → Option (Bool)
  | 0, _, _, _, _ => none
  | k + 1, x0, x3, x4, x60 => if x60 = true then (some false) else ((fix_Sine.f k (wrap64 (x0 + 94371840))).bind fun bt232 => (if bt232.2.2 = 0 then (if bt232.1 = x4 then (fleuronlaw02_FixQuarters.j1 k x0 x3 x4 (bt232.2.1 != (wrap64 (-x3)))) else (fleuronlaw02_FixQuarters.j1 k x0 x3 x4 true)) else (fleuronlaw02_FixQuarters.j1 k x0 x3 x4 false)))
def fleuronlaw02_FixQuarters.j1 : Nat → Int → Int → Int → Bool → Option (Bool)
  | 0, _, _, _, _ => none
  | k + 1, x0, x3, x4, x80 => if x80 = true then (some false) else ((fix_Sine.f k (wrap64 (-x0))).bind fun bt235 => (if bt235.2.2 = 0 then (if (wrap64 (bt235.1 + x3)) > 2 then (some false) else (if (wrap64 (bt235.1 + x3)) < (-2) then (some false) else (if (wrap64 ((wrap64 ((wrap64 (x3 * x3)) + (wrap64 (x4 * x4)))) - 72057594037927936)) < 8589934592 then (if (wrap64 ((wrap64 ((wrap64 (x3 * x3)) + (wrap64 (x4 * x4)))) - 72057594037927936)) > (-8589934592) then ((fleuronlaw02_awake.f k).bind fun t238 => (some t238)) else (some false)) else (some false)))) else (some false)))
end
def fleuronlaw02_FixQuarters.f (k : Nat) (a0 : Int) : Option (Bool) := (fix_Sine.f k a0).bind fun bt228 => (if bt228.2.2 = 0 then (if (Int.tmod a0 94371840) = 0 then (if bt228.1 = 0 then (if bt228.2.1 = 0 then (fleuronlaw02_FixQuarters.j0 k a0 bt228.1 bt228.2.1 false) else (if bt228.2.1 = 268435456 then (fleuronlaw02_FixQuarters.j0 k a0 bt228.1 bt228.2.1 false) else (fleuronlaw02_FixQuarters.j0 k a0 bt228.1 bt228.2.1 (bt228.2.1 != (-268435456))))) else (if bt228.1 = 268435456 then (if bt228.2.1 = 0 then (fleuronlaw02_FixQuarters.j0 k a0 bt228.1 bt228.2.1 false) else (if bt228.2.1 = 268435456 then (fleuronlaw02_FixQuarters.j0 k a0 bt228.1 bt228.2.1 false) else (fleuronlaw02_FixQuarters.j0 k a0 bt228.1 bt228.2.1 (bt228.2.1 != (-268435456))))) else (if bt228.1 = (-268435456) then (if bt228.2.1 = 0 then (fleuronlaw02_FixQuarters.j0 k a0 bt228.1 bt228.2.1 false) else (if bt228.2.1 = 268435456 then (fleuronlaw02_FixQuarters.j0 k a0 bt228.1 bt228.2.1 false) else (fleuronlaw02_FixQuarters.j0 k a0 bt228.1 bt228.2.1 (bt228.2.1 != (-268435456))))) else (fleuronlaw02_FixQuarters.j0 k a0 bt228.1 bt228.2.1 true)))) else (fleuronlaw02_FixQuarters.j0 k a0 bt228.1 bt228.2.1 false)) else (if bt228.1 = 0 then (if bt228.2.1 = 0 then (if bt228.2.2 = 2 then ((fleuronlaw02_awake.f k).bind fun t231 => (some t231)) else (some false)) else (some false)) else (some false)))
theorem fleuronlaw02_FixQuarters.mono_l : ∀ k, (∀ y0 y1 y2 y3, LeO (fleuronlaw02_FixQuarters.j0 k y0 y1 y2 y3) (fleuronlaw02_FixQuarters.j0 (k + 1) y0 y1 y2 y3)) ∧ (∀ y0 y1 y2 y3, LeO (fleuronlaw02_FixQuarters.j1 k y0 y1 y2 y3) (fleuronlaw02_FixQuarters.j1 (k + 1) y0 y1 y2 y3))
  | 0 => ⟨fun _ _ _ _ r h => by simp [fleuronlaw02_FixQuarters.j0] at h, fun _ _ _ _ r h => by simp [fleuronlaw02_FixQuarters.j1] at h⟩
  | k + 1 => by
    obtain ⟨ih0, ih1⟩ := fleuronlaw02_FixQuarters.mono_l k
    refine ⟨?_, ?_⟩
    · intro y0 y1 y2 y3
      unfold fleuronlaw02_FixQuarters.j0
      repeat' first
      | (with_reducible exact ih0 _ _ _ _)
      | (with_reducible exact ih1 _ _ _ _)
      | (with_reducible exact fix_Sine.mono _ _)
      | (with_reducible exact fleuronlaw02_awake.mono _)
      | (with_reducible exact LeO.refl _)
      | (with_reducible exact LeO.none _)
      | (with_reducible refine LeO.ite ?_ ?_)
      | (with_reducible refine LeO.bind ?_ (fun _ => ?_))
      | exact ih0 _ _ _ _
      | exact ih1 _ _ _ _
      | exact fix_Sine.mono _ _
      | exact fleuronlaw02_awake.mono _
      | exact LeO.none _
      | refine LeO.ite ?_ ?_
      | refine LeO.bind ?_ (fun _ => ?_)
    · intro y0 y1 y2 y3
      unfold fleuronlaw02_FixQuarters.j1
      repeat' first
      | (with_reducible exact ih0 _ _ _ _)
      | (with_reducible exact ih1 _ _ _ _)
      | (with_reducible exact fix_Sine.mono _ _)
      | (with_reducible exact fleuronlaw02_awake.mono _)
      | (with_reducible exact LeO.refl _)
      | (with_reducible exact LeO.none _)
      | (with_reducible refine LeO.ite ?_ ?_)
      | (with_reducible refine LeO.bind ?_ (fun _ => ?_))
      | exact ih0 _ _ _ _
      | exact ih1 _ _ _ _
      | exact fix_Sine.mono _ _
      | exact fleuronlaw02_awake.mono _
      | exact LeO.none _
      | refine LeO.ite ?_ ?_
      | refine LeO.bind ?_ (fun _ => ?_)
theorem fleuronlaw02_FixQuarters.mono : ∀ a0 k, LeO (fleuronlaw02_FixQuarters.f k a0) (fleuronlaw02_FixQuarters.f (k + 1) a0) := by
  intro a0 k
  obtain ⟨ih0, ih1⟩ := fleuronlaw02_FixQuarters.mono_l k
  unfold fleuronlaw02_FixQuarters.f
  repeat' first
      | (with_reducible exact ih0 _ _ _ _)
      | (with_reducible exact ih1 _ _ _ _)
      | (with_reducible exact fix_Sine.mono _ _)
      | (with_reducible exact fleuronlaw02_awake.mono _)
      | (with_reducible exact LeO.refl _)
      | (with_reducible exact LeO.none _)
      | (with_reducible refine LeO.ite ?_ ?_)
      | (with_reducible refine LeO.bind ?_ (fun _ => ?_))
      | exact ih0 _ _ _ _
      | exact ih1 _ _ _ _
      | exact fix_Sine.mono _ _
      | exact fleuronlaw02_awake.mono _
      | exact LeO.none _
      | refine LeO.ite ?_ ?_
      | refine LeO.bind ?_ (fun _ => ?_)
set_option maxHeartbeats 8000000 in
set_option maxRecDepth 100000 in
theorem fleuronlaw02_FixQuarters.callsT (k : Nat) (a0 : Int) (w : World) (ht_ : LaidOK w) (h : fleuronlaw02_FixQuarters.f k a0 = some true) :
    Calls Tryd.prog 3 #[.int .i64 a0] w fun e w' => e = .returned (.bool true) ∧ Below w.heap.size w w' := by
  have HB := Aside0.mk (Below.refl w.heap.size w)
  have HT_ := Aside0.mk ht_
  clear ht_
  have H : ((fix_Sine.f k a0).bind fun bt228 => (if bt228.2.2 = 0 then (if (Int.tmod a0 94371840) = 0 then (if bt228.1 = 0 then (if bt228.2.1 = 0 then (fleuronlaw02_FixQuarters.j0 k a0 bt228.1 bt228.2.1 false) else (if bt228.2.1 = 268435456 then (fleuronlaw02_FixQuarters.j0 k a0 bt228.1 bt228.2.1 false) else (fleuronlaw02_FixQuarters.j0 k a0 bt228.1 bt228.2.1 (bt228.2.1 != (-268435456))))) else (if bt228.1 = 268435456 then (if bt228.2.1 = 0 then (fleuronlaw02_FixQuarters.j0 k a0 bt228.1 bt228.2.1 false) else (if bt228.2.1 = 268435456 then (fleuronlaw02_FixQuarters.j0 k a0 bt228.1 bt228.2.1 false) else (fleuronlaw02_FixQuarters.j0 k a0 bt228.1 bt228.2.1 (bt228.2.1 != (-268435456))))) else (if bt228.1 = (-268435456) then (if bt228.2.1 = 0 then (fleuronlaw02_FixQuarters.j0 k a0 bt228.1 bt228.2.1 false) else (if bt228.2.1 = 268435456 then (fleuronlaw02_FixQuarters.j0 k a0 bt228.1 bt228.2.1 false) else (fleuronlaw02_FixQuarters.j0 k a0 bt228.1 bt228.2.1 (bt228.2.1 != (-268435456))))) else (fleuronlaw02_FixQuarters.j0 k a0 bt228.1 bt228.2.1 true)))) else (fleuronlaw02_FixQuarters.j0 k a0 bt228.1 bt228.2.1 false)) else (if bt228.1 = 0 then (if bt228.2.1 = 0 then (if bt228.2.2 = 2 then ((fleuronlaw02_awake.f k).bind fun t231 => (some t231)) else (some false)) else (some false)) else (some false)))) = some true := h
  clear h
  replace H := Option.bind_eq_some_iff.mp H
  obtain ⟨⟨t228, t229, t230⟩, A20, H⟩ := H
  replace H : (if t230 = 0 then (if (Int.tmod a0 94371840) = 0 then (if t228 = 0 then (if t229 = 0 then (fleuronlaw02_FixQuarters.j0 k a0 t228 t229 false) else (if t229 = 268435456 then (fleuronlaw02_FixQuarters.j0 k a0 t228 t229 false) else (fleuronlaw02_FixQuarters.j0 k a0 t228 t229 (t229 != (-268435456))))) else (if t228 = 268435456 then (if t229 = 0 then (fleuronlaw02_FixQuarters.j0 k a0 t228 t229 false) else (if t229 = 268435456 then (fleuronlaw02_FixQuarters.j0 k a0 t228 t229 false) else (fleuronlaw02_FixQuarters.j0 k a0 t228 t229 (t229 != (-268435456))))) else (if t228 = (-268435456) then (if t229 = 0 then (fleuronlaw02_FixQuarters.j0 k a0 t228 t229 false) else (if t229 = 268435456 then (fleuronlaw02_FixQuarters.j0 k a0 t228 t229 false) else (fleuronlaw02_FixQuarters.j0 k a0 t228 t229 (t229 != (-268435456))))) else (fleuronlaw02_FixQuarters.j0 k a0 t228 t229 true)))) else (fleuronlaw02_FixQuarters.j0 k a0 t228 t229 false)) else (if t228 = 0 then (if t229 = 0 then (if t230 = 2 then ((fleuronlaw02_awake.f k).bind fun t231 => (some t231)) else (some false)) else (some false)) else (some false))) = some true := H
  have A2 := Aside0.mk A20
  clear A20
  by_cases c3 : t230 = 0
  · rw [if_pos c3] at H
    have c3b0 : (t230 == 0) = true := beq_iff_eq.mpr c3
    have c3b1 : (t230 != 0) = false := bne_eq_false_iff_eq.mpr c3
    clear c3
    have HC4 := Aside0.mk H
    clear H
    go_enter Tryd.func3, Tryd.ntmps3
    go_upto_region 4 with (first | ((with_reducible refine gate_callee (f := 7) rfl ?_); refine goesL_ (some 15) rfl rfl Tryd.func7 (by kernel_rfl) rfl #[.int .i64 a0] rfl (by (try simp only [List.map_toArray, List.map_cons, List.map_nil]); first | done | rfl | (simp only [List.length_drop, List.length_take]; rfl)) ?_; (with_reducible refine (fix_Sine.calls k a0 t228 t229 t230 _ A2.out).mono ?_); rintro e w5 ⟨rfl, hb⟩; refine ⟨_, rfl, ?_⟩; have n0_ := Aside0.mk (below_step (by repeat (first | (with_reducible first | exact HB.out | apply below_alloc | apply pw_below_drewN | apply below_drew1) | exact HB.out)) hb); clear HB; have HB := n0_; clear n0_; (try clear hb); (try clear hb2); (try clear hk); (try clear hi)))
    (try simp only [Act.put, List.setIfInBounds_toArray, List.set_cons_zero, List.set_cons_succ])
    go_cut [60] (fun v60 wc => ∃ (kq : Nat) (x60_3 : Bool), v60 = .bool x60_3 ∧ Aside0 (fleuronlaw02_FixQuarters.j0 kq a0 t228 t229 x60_3 = some true) ∧ Aside0 (kq ≤ k) ∧ Aside0 (Below w.heap.size w wc))
    case first =>
      have H := HC4.out
      clear HC4
      by_cases c6 : (Int.tmod a0 94371840) = 0
      · rw [if_pos c6] at H
        have c6b0 : ((Int.tmod a0 94371840) == 0) = true := beq_iff_eq.mpr c6
        have c6b1 : ((Int.tmod a0 94371840) != 0) = false := bne_eq_false_iff_eq.mpr c6
        clear c6
        (first | rw [c6b0] | (simp only [i64_w, i32_w]; rw [c6b0]) | skip)
        by_cases c7 : t228 = 0
        · rw [if_pos c7] at H
          have c7b0 : (t228 == 0) = true := beq_iff_eq.mpr c7
          have c7b1 : (t228 != 0) = false := bne_eq_false_iff_eq.mpr c7
          clear c7
          by_cases c8 : t229 = 0
          · rw [if_pos c8] at H
            have c8b0 : (t229 == 0) = true := beq_iff_eq.mpr c8
            have c8b1 : (t229 != 0) = false := bne_eq_false_iff_eq.mpr c8
            clear c8
            have H' := Aside0.mk H
            clear H
            go_wp2
            go_meet
            case rel => exact ⟨_, (false), (by first | rfl | (simp; done) | (simp [*]; done)), H', ⟨by first | omega | exact Nat.le_refl _⟩, ⟨by repeat (first | (with_reducible first | exact HB.out | apply below_alloc | apply pw_below_drewN | apply below_drew1) | exact HB.out)⟩⟩
          · rw [if_neg c8] at H
            have c8b0 : (t229 == 0) = false := beq_eq_false_iff_ne.mpr c8
            have c8b1 : (t229 != 0) = true := bne_iff_ne.mpr c8
            by_cases c9 : t229 = 268435456
            · rw [if_pos c9] at H
              have c9b0 : (t229 == 268435456) = true := beq_iff_eq.mpr c9
              have c9b1 : (t229 != 268435456) = false := bne_eq_false_iff_eq.mpr c9
              clear c9
              have H' := Aside0.mk H
              clear H
              go_wp2
              go_meet
              case rel => exact ⟨_, (false), (by first | rfl | (simp; done) | (simp [*]; done)), H', ⟨by first | omega | exact Nat.le_refl _⟩, ⟨by repeat (first | (with_reducible first | exact HB.out | apply below_alloc | apply pw_below_drewN | apply below_drew1) | exact HB.out)⟩⟩
            · rw [if_neg c9] at H
              have c9b0 : (t229 == 268435456) = false := beq_eq_false_iff_ne.mpr c9
              have c9b1 : (t229 != 268435456) = true := bne_iff_ne.mpr c9
              have H' := Aside0.mk H
              clear H
              go_wp2
              go_meet
              case rel => exact ⟨_, ((t229 != (-268435456))), (by first | rfl | (simp; done) | (simp [*]; done)), H', ⟨by first | omega | exact Nat.le_refl _⟩, ⟨by repeat (first | (with_reducible first | exact HB.out | apply below_alloc | apply pw_below_drewN | apply below_drew1) | exact HB.out)⟩⟩
        · rw [if_neg c7] at H
          have c7b0 : (t228 == 0) = false := beq_eq_false_iff_ne.mpr c7
          have c7b1 : (t228 != 0) = true := bne_iff_ne.mpr c7
          by_cases c10 : t228 = 268435456
          · rw [if_pos c10] at H
            have c10b0 : (t228 == 268435456) = true := beq_iff_eq.mpr c10
            have c10b1 : (t228 != 268435456) = false := bne_eq_false_iff_eq.mpr c10
            clear c10
            by_cases c11 : t229 = 0
            · rw [if_pos c11] at H
              have c11b0 : (t229 == 0) = true := beq_iff_eq.mpr c11
              have c11b1 : (t229 != 0) = false := bne_eq_false_iff_eq.mpr c11
              clear c11
              have H' := Aside0.mk H
              clear H
              go_wp2
              go_meet
              case rel => exact ⟨_, (false), (by first | rfl | (simp; done) | (simp [*]; done)), H', ⟨by first | omega | exact Nat.le_refl _⟩, ⟨by repeat (first | (with_reducible first | exact HB.out | apply below_alloc | apply pw_below_drewN | apply below_drew1) | exact HB.out)⟩⟩
            · rw [if_neg c11] at H
              have c11b0 : (t229 == 0) = false := beq_eq_false_iff_ne.mpr c11
              have c11b1 : (t229 != 0) = true := bne_iff_ne.mpr c11
              by_cases c12 : t229 = 268435456
              · rw [if_pos c12] at H
                have c12b0 : (t229 == 268435456) = true := beq_iff_eq.mpr c12
                have c12b1 : (t229 != 268435456) = false := bne_eq_false_iff_eq.mpr c12
                clear c12
                have H' := Aside0.mk H
                clear H
                go_wp2
                go_meet
                case rel => exact ⟨_, (false), (by first | rfl | (simp; done) | (simp [*]; done)), H', ⟨by first | omega | exact Nat.le_refl _⟩, ⟨by repeat (first | (with_reducible first | exact HB.out | apply below_alloc | apply pw_below_drewN | apply below_drew1) | exact HB.out)⟩⟩
              · rw [if_neg c12] at H
                have c12b0 : (t229 == 268435456) = false := beq_eq_false_iff_ne.mpr c12
                have c12b1 : (t229 != 268435456) = true := bne_iff_ne.mpr c12
                have H' := Aside0.mk H
                clear H
                go_wp2
                go_meet
                case rel => exact ⟨_, ((t229 != (-268435456))), (by first | rfl | (simp; done) | (simp [*]; done)), H', ⟨by first | omega | exact Nat.le_refl _⟩, ⟨by repeat (first | (with_reducible first | exact HB.out | apply below_alloc | apply pw_below_drewN | apply below_drew1) | exact HB.out)⟩⟩
          · rw [if_neg c10] at H
            have c10b0 : (t228 == 268435456) = false := beq_eq_false_iff_ne.mpr c10
            have c10b1 : (t228 != 268435456) = true := bne_iff_ne.mpr c10
            by_cases c13 : t228 = (-268435456)
            · rw [if_pos c13] at H
              have c13b0 : (t228 == (-268435456)) = true := beq_iff_eq.mpr c13
              have c13b1 : (t228 != (-268435456)) = false := bne_eq_false_iff_eq.mpr c13
              clear c13
              by_cases c14 : t229 = 0
              · rw [if_pos c14] at H
                have c14b0 : (t229 == 0) = true := beq_iff_eq.mpr c14
                have c14b1 : (t229 != 0) = false := bne_eq_false_iff_eq.mpr c14
                clear c14
                have H' := Aside0.mk H
                clear H
                go_wp2
                go_meet
                case rel => exact ⟨_, (false), (by first | rfl | (simp; done) | (simp [*]; done)), H', ⟨by first | omega | exact Nat.le_refl _⟩, ⟨by repeat (first | (with_reducible first | exact HB.out | apply below_alloc | apply pw_below_drewN | apply below_drew1) | exact HB.out)⟩⟩
              · rw [if_neg c14] at H
                have c14b0 : (t229 == 0) = false := beq_eq_false_iff_ne.mpr c14
                have c14b1 : (t229 != 0) = true := bne_iff_ne.mpr c14
                by_cases c15 : t229 = 268435456
                · rw [if_pos c15] at H
                  have c15b0 : (t229 == 268435456) = true := beq_iff_eq.mpr c15
                  have c15b1 : (t229 != 268435456) = false := bne_eq_false_iff_eq.mpr c15
                  clear c15
                  have H' := Aside0.mk H
                  clear H
                  go_wp2
                  go_meet
                  case rel => exact ⟨_, (false), (by first | rfl | (simp; done) | (simp [*]; done)), H', ⟨by first | omega | exact Nat.le_refl _⟩, ⟨by repeat (first | (with_reducible first | exact HB.out | apply below_alloc | apply pw_below_drewN | apply below_drew1) | exact HB.out)⟩⟩
                · rw [if_neg c15] at H
                  have c15b0 : (t229 == 268435456) = false := beq_eq_false_iff_ne.mpr c15
                  have c15b1 : (t229 != 268435456) = true := bne_iff_ne.mpr c15
                  have H' := Aside0.mk H
                  clear H
                  go_wp2
                  go_meet
                  case rel => exact ⟨_, ((t229 != (-268435456))), (by first | rfl | (simp; done) | (simp [*]; done)), H', ⟨by first | omega | exact Nat.le_refl _⟩, ⟨by repeat (first | (with_reducible first | exact HB.out | apply below_alloc | apply pw_below_drewN | apply below_drew1) | exact HB.out)⟩⟩
            · rw [if_neg c13] at H
              have c13b0 : (t228 == (-268435456)) = false := beq_eq_false_iff_ne.mpr c13
              have c13b1 : (t228 != (-268435456)) = true := bne_iff_ne.mpr c13
              have H' := Aside0.mk H
              clear H
              go_wp2
              go_meet
              case rel => exact ⟨_, (true), (by first | rfl | (simp; done) | (simp [*]; done)), H', ⟨by first | omega | exact Nat.le_refl _⟩, ⟨by repeat (first | (with_reducible first | exact HB.out | apply below_alloc | apply pw_below_drewN | apply below_drew1) | exact HB.out)⟩⟩
      · rw [if_neg c6] at H
        have c6b0 : ((Int.tmod a0 94371840) == 0) = false := beq_eq_false_iff_ne.mpr c6
        have c6b1 : ((Int.tmod a0 94371840) != 0) = true := bne_iff_ne.mpr c6
        (first | rw [c6b0] | (simp only [i64_w, i32_w]; rw [c6b0]) | skip)
        have H' := Aside0.mk H
        clear H
        go_wp2
        go_meet
        case rel => exact ⟨_, (false), (by first | rfl | (simp; done) | (simp [*]; done)), H', ⟨by first | omega | exact Nat.le_refl _⟩, ⟨by repeat (first | (with_reducible first | exact HB.out | apply below_alloc | apply pw_below_drewN | apply below_drew1) | exact HB.out)⟩⟩
    case rest =>
      clear HC4
      try clear c1
      try clear p2
      try clear c3
      try clear c3b0
      try clear c3b1
      try clear c6
      try clear c6b0
      try clear c6b1
      try clear c7
      try clear c7b0
      try clear c7b1
      try clear c8
      try clear c8b0
      try clear c8b1
      try clear c9
      try clear c9b0
      try clear c9b1
      try clear c10
      try clear c10b0
      try clear c10b1
      try clear c11
      try clear c11b0
      try clear c11b1
      try clear c12
      try clear c12b0
      try clear c12b1
      try clear c13
      try clear c13b0
      try clear c13b1
      try clear c14
      try clear c14b0
      try clear c14b1
      try clear c15
      try clear c15b0
      try clear c15b1
      obtain ⟨kq, x60_3, rfl, HA, HJ3, HB⟩ := hcut
      cases kq with
      | zero => exact absurd HA.out (by simp [fleuronlaw02_FixQuarters.j0])
      | succ kj3 =>
        have H := HA.out
        clear HA
        simp only [fleuronlaw02_FixQuarters.j0] at H
        by_cases c16 : x60_3 = true
        · subst c16
          have H1 : (some false) = some true := by rw [if_pos rfl] at H; exact H
          clear H
          have H := H1
          clear H1
          exact absurd H (by simp)
        · replace c16 := Bool.eq_false_iff.mpr c16
          subst c16
          have H1 : ((fix_Sine.f kj3 (wrap64 (a0 + 94371840))).bind fun bt232 => (if bt232.2.2 = 0 then (if bt232.1 = t229 then (fleuronlaw02_FixQuarters.j1 kj3 a0 t228 t229 (bt232.2.1 != (wrap64 (-t228)))) else (fleuronlaw02_FixQuarters.j1 kj3 a0 t228 t229 true)) else (fleuronlaw02_FixQuarters.j1 kj3 a0 t228 t229 false))) = some true := by rw [if_neg (show ¬ (false = true) by decide)] at H; exact H
          clear H
          have H := H1
          clear H1
          replace H := Option.bind_eq_some_iff.mp H
          obtain ⟨⟨t232, t233, t234⟩, A170, H⟩ := H
          replace H : (if t234 = 0 then (if t232 = t229 then (fleuronlaw02_FixQuarters.j1 kj3 a0 t228 t229 (t233 != (wrap64 (-t228)))) else (fleuronlaw02_FixQuarters.j1 kj3 a0 t228 t229 true)) else (fleuronlaw02_FixQuarters.j1 kj3 a0 t228 t229 false)) = some true := H
          have A17 := Aside0.mk A170
          clear A170
          have HC18 := Aside0.mk H
          clear H
          go_upto_region 7 with (first | ((with_reducible refine gate_callee (f := 7) rfl ?_); refine goesL_ (some 64) rfl rfl Tryd.func7 (by kernel_rfl) rfl #[.int .i64 (wrap64 (a0 + 94371840))] rfl (by (try simp only [List.map_toArray, List.map_cons, List.map_nil]); first | done | rfl | (simp only [List.length_drop, List.length_take]; rfl)) ?_; (with_reducible refine (fix_Sine.calls kj3 (wrap64 (a0 + 94371840)) t232 t233 t234 _ A17.out).mono ?_); rintro e w19 ⟨rfl, hb⟩; refine ⟨_, rfl, ?_⟩; have n0_ := Aside0.mk (below_step (by repeat (first | (with_reducible first | exact HB.out | apply below_alloc | apply pw_below_drewN | apply below_drew1) | exact HB.out)) hb); clear HB; have HB := n0_; clear n0_; (try clear hb); (try clear hb2); (try clear hk); (try clear hi)))
          (try simp only [Act.put, List.setIfInBounds_toArray, List.set_cons_zero, List.set_cons_succ])
          go_cut [80] (fun v80 wc => ∃ (kq : Nat) (x80_17 : Bool), v80 = .bool x80_17 ∧ Aside0 (fleuronlaw02_FixQuarters.j1 kq a0 t228 t229 x80_17 = some true) ∧ Aside0 (kq ≤ kj3) ∧ Aside0 (Below w.heap.size w wc))
          case first =>
            have H := HC18.out
            clear HC18
            by_cases c20 : t234 = 0
            · rw [if_pos c20] at H
              have c20b0 : (t234 == 0) = true := beq_iff_eq.mpr c20
              have c20b1 : (t234 != 0) = false := bne_eq_false_iff_eq.mpr c20
              clear c20
              (first | rw [c20b0] | (simp only [i64_w, i32_w]; rw [c20b0]) | skip)
              by_cases c21 : t232 = t229
              · rw [if_pos c21] at H
                have c21b0 : (t232 == t229) = true := beq_iff_eq.mpr c21
                have c21b1 : (t232 != t229) = false := bne_eq_false_iff_eq.mpr c21
                clear c21
                have H' := Aside0.mk H
                clear H
                go_wp2
                go_meet
                case rel => exact ⟨_, ((t233 != (wrap64 (-t228)))), (by first | rfl | (simp; done) | (simp [*]; done)), H', ⟨by have := HJ3.out; first | omega | exact Nat.le_refl _⟩, ⟨by repeat (first | (with_reducible first | exact HB.out | apply below_alloc | apply pw_below_drewN | apply below_drew1) | exact HB.out)⟩⟩
              · rw [if_neg c21] at H
                have c21b0 : (t232 == t229) = false := beq_eq_false_iff_ne.mpr c21
                have c21b1 : (t232 != t229) = true := bne_iff_ne.mpr c21
                have H' := Aside0.mk H
                clear H
                go_wp2
                go_meet
                case rel => exact ⟨_, (true), (by first | rfl | (simp; done) | (simp [*]; done)), H', ⟨by have := HJ3.out; first | omega | exact Nat.le_refl _⟩, ⟨by repeat (first | (with_reducible first | exact HB.out | apply below_alloc | apply pw_below_drewN | apply below_drew1) | exact HB.out)⟩⟩
            · rw [if_neg c20] at H
              have c20b0 : (t234 == 0) = false := beq_eq_false_iff_ne.mpr c20
              have c20b1 : (t234 != 0) = true := bne_iff_ne.mpr c20
              (first | rw [c20b0] | (simp only [i64_w, i32_w]; rw [c20b0]) | skip)
              have H' := Aside0.mk H
              clear H
              go_wp2
              go_meet
              case rel => exact ⟨_, (false), (by first | rfl | (simp; done) | (simp [*]; done)), H', ⟨by have := HJ3.out; first | omega | exact Nat.le_refl _⟩, ⟨by repeat (first | (with_reducible first | exact HB.out | apply below_alloc | apply pw_below_drewN | apply below_drew1) | exact HB.out)⟩⟩
          case rest =>
            clear HC18
            try clear c1
            try clear c2
            try clear p2
            try clear c3
            try clear c3b0
            try clear c3b1
            try clear c6
            try clear c6b0
            try clear c6b1
            try clear p6
            try clear c7
            try clear c7b0
            try clear c7b1
            try clear c8
            try clear c8b0
            try clear c8b1
            try clear c9
            try clear c9b0
            try clear c9b1
            try clear c10
            try clear c10b0
            try clear c10b1
            try clear c11
            try clear c11b0
            try clear c11b1
            try clear c12
            try clear c12b0
            try clear c12b1
            try clear c13
            try clear c13b0
            try clear c13b1
            try clear c14
            try clear c14b0
            try clear c14b1
            try clear c15
            try clear c15b0
            try clear c15b1
            try clear c16
            try clear c20
            try clear c20b0
            try clear c20b1
            try clear c21
            try clear c21b0
            try clear c21b1
            try clear p2
            obtain ⟨kq, x80_17, rfl, HA, HJ17, HB⟩ := hcut
            cases kq with
            | zero => exact absurd HA.out (by simp [fleuronlaw02_FixQuarters.j1])
            | succ kj17 =>
              have H := HA.out
              clear HA
              simp only [fleuronlaw02_FixQuarters.j1] at H
              by_cases c22 : x80_17 = true
              · subst c22
                have H1 : (some false) = some true := by rw [if_pos rfl] at H; exact H
                clear H
                have H := H1
                clear H1
                exact absurd H (by simp)
              · replace c22 := Bool.eq_false_iff.mpr c22
                subst c22
                have H1 : ((fix_Sine.f kj17 (wrap64 (-a0))).bind fun bt235 => (if bt235.2.2 = 0 then (if (wrap64 (bt235.1 + t228)) > 2 then (some false) else (if (wrap64 (bt235.1 + t228)) < (-2) then (some false) else (if (wrap64 ((wrap64 ((wrap64 (t228 * t228)) + (wrap64 (t229 * t229)))) - 72057594037927936)) < 8589934592 then (if (wrap64 ((wrap64 ((wrap64 (t228 * t228)) + (wrap64 (t229 * t229)))) - 72057594037927936)) > (-8589934592) then ((fleuronlaw02_awake.f kj17).bind fun t238 => (some t238)) else (some false)) else (some false)))) else (some false))) = some true := by rw [if_neg (show ¬ (false = true) by decide)] at H; exact H
                clear H
                have H := H1
                clear H1
                replace H := Option.bind_eq_some_iff.mp H
                obtain ⟨⟨t235, t236, t237⟩, A230, H⟩ := H
                replace H : (if t237 = 0 then (if (wrap64 (t235 + t228)) > 2 then (some false) else (if (wrap64 (t235 + t228)) < (-2) then (some false) else (if (wrap64 ((wrap64 ((wrap64 (t228 * t228)) + (wrap64 (t229 * t229)))) - 72057594037927936)) < 8589934592 then (if (wrap64 ((wrap64 ((wrap64 (t228 * t228)) + (wrap64 (t229 * t229)))) - 72057594037927936)) > (-8589934592) then ((fleuronlaw02_awake.f kj17).bind fun t238 => (some t238)) else (some false)) else (some false)))) else (some false)) = some true := H
                have A23 := Aside0.mk A230
                clear A230
                by_cases c24 : t237 = 0
                · rw [if_pos c24] at H
                  have c24b0 : (t237 == 0) = true := beq_iff_eq.mpr c24
                  have c24b1 : (t237 != 0) = false := bne_eq_false_iff_eq.mpr c24
                  clear c24
                  by_cases c25 : (wrap64 (t235 + t228)) > 2
                  · rw [if_pos c25] at H
                    have c25b0 : decide (2 < (wrap64 (t235 + t228))) = true := decide_eq_true c25
                    clear c25
                    exact absurd H (by simp)
                  · rw [if_neg c25] at H
                    have c25b0 : decide (2 < (wrap64 (t235 + t228))) = false := decide_eq_false c25
                    clear c25
                    by_cases c26 : (wrap64 (t235 + t228)) < (-2)
                    · rw [if_pos c26] at H
                      have c26b0 : decide ((wrap64 (t235 + t228)) < (-2)) = true := decide_eq_true c26
                      clear c26
                      exact absurd H (by simp)
                    · rw [if_neg c26] at H
                      have c26b0 : decide ((wrap64 (t235 + t228)) < (-2)) = false := decide_eq_false c26
                      clear c26
                      by_cases c27 : (wrap64 ((wrap64 ((wrap64 (t228 * t228)) + (wrap64 (t229 * t229)))) - 72057594037927936)) < 8589934592
                      · rw [if_pos c27] at H
                        have c27b0 : decide ((wrap64 ((wrap64 ((wrap64 (t228 * t228)) + (wrap64 (t229 * t229)))) - 72057594037927936)) < 8589934592) = true := decide_eq_true c27
                        clear c27
                        by_cases c28 : (wrap64 ((wrap64 ((wrap64 (t228 * t228)) + (wrap64 (t229 * t229)))) - 72057594037927936)) > (-8589934592)
                        · rw [if_pos c28] at H
                          have c28b0 : decide ((-8589934592) < (wrap64 ((wrap64 ((wrap64 (t228 * t228)) + (wrap64 (t229 * t229)))) - 72057594037927936))) = true := decide_eq_true c28
                          clear c28
                          replace H := Option.bind_eq_some_iff.mp H
                          obtain ⟨t238, A290, H⟩ := H
                          replace H : (some t238) = some true := H
                          have A29 := Aside0.mk A290
                          clear A290
                          have hr_ := Option.some.inj H
                          clear H
                          go_wp2_with (first | ((with_reducible refine gate_callee (f := 7) rfl ?_); refine goesL_ (some 84) rfl rfl Tryd.func7 (by kernel_rfl) rfl #[.int .i64 (wrap64 (-a0))] rfl (by (try simp only [List.map_toArray, List.map_cons, List.map_nil]); first | done | rfl | (simp only [List.length_drop, List.length_take]; rfl)) ?_; (with_reducible refine (fix_Sine.calls kj17 (wrap64 (-a0)) t235 t236 t237 _ A23.out).mono ?_); rintro e w30 ⟨rfl, hb⟩; refine ⟨_, rfl, ?_⟩; have n0_ := Aside0.mk (below_step (by repeat (first | (with_reducible first | exact HB.out | apply below_alloc | apply pw_below_drewN | apply below_drew1) | exact HB.out)) hb); clear HB; have HB := n0_; clear n0_; (try clear hb); (try clear hb2); (try clear hk); (try clear hi)) | (go_at_call 8; (with_reducible refine (fleuronlaw02_awake.callsT kj17   _ ?side1 (Aside0.mk (by have z_ := A29.out; rw [show t238 = true by assumption] at z_; exact z_)).out).mono ?_); (case side1 => exact LaidOK.below HT_.out (by repeat (first | (with_reducible first | exact HB.out | apply below_alloc | apply pw_below_drewN | apply below_drew1) | exact HB.out))); rintro e w31 ⟨rfl, hb⟩; have n0_ := Aside0.mk (below_step (by repeat (first | (with_reducible first | exact HB.out | apply below_alloc | apply pw_below_drewN | apply below_drew1) | exact HB.out)) hb); clear HB; have HB := n0_; clear n0_; (try clear hb); (try clear hb2); (try clear hk); (try clear hi)))
                          go_ret
                          exact ⟨by first | rfl | (simp [errW_none, errW_some] <;> rfl) | (simp [*, errW_none, errW_some] <;> rfl), by repeat (first | (with_reducible first | exact HB.out | apply below_alloc | apply pw_below_drewN | apply below_drew1) | exact HB.out)⟩
                        · rw [if_neg c28] at H
                          have c28b0 : decide ((-8589934592) < (wrap64 ((wrap64 ((wrap64 (t228 * t228)) + (wrap64 (t229 * t229)))) - 72057594037927936))) = false := decide_eq_false c28
                          clear c28
                          exact absurd H (by simp)
                      · rw [if_neg c27] at H
                        have c27b0 : decide ((wrap64 ((wrap64 ((wrap64 (t228 * t228)) + (wrap64 (t229 * t229)))) - 72057594037927936)) < 8589934592) = false := decide_eq_false c27
                        clear c27
                        exact absurd H (by simp)
                · rw [if_neg c24] at H
                  have c24b0 : (t237 == 0) = false := beq_eq_false_iff_ne.mpr c24
                  have c24b1 : (t237 != 0) = true := bne_iff_ne.mpr c24
                  exact absurd H (by simp)
  · rw [if_neg c3] at H
    have c3b0 : (t230 == 0) = false := beq_eq_false_iff_ne.mpr c3
    have c3b1 : (t230 != 0) = true := bne_iff_ne.mpr c3
    by_cases c32 : t228 = 0
    · rw [if_pos c32] at H
      have c32b0 : (t228 == 0) = true := beq_iff_eq.mpr c32
      have c32b1 : (t228 != 0) = false := bne_eq_false_iff_eq.mpr c32
      clear c32
      by_cases c33 : t229 = 0
      · rw [if_pos c33] at H
        have c33b0 : (t229 == 0) = true := beq_iff_eq.mpr c33
        have c33b1 : (t229 != 0) = false := bne_eq_false_iff_eq.mpr c33
        clear c33
        by_cases c34 : t230 = 2
        · rw [if_pos c34] at H
          have c34b0 : (t230 == 2) = true := beq_iff_eq.mpr c34
          have c34b1 : (t230 != 2) = false := bne_eq_false_iff_eq.mpr c34
          clear c34
          replace H := Option.bind_eq_some_iff.mp H
          obtain ⟨t231, A350, H⟩ := H
          replace H : (some t231) = some true := H
          have A35 := Aside0.mk A350
          clear A350
          have hr_ := Option.some.inj H
          clear H
          go_enter Tryd.func3, Tryd.ntmps3
          go_wp2_with (first | ((with_reducible refine gate_callee (f := 7) rfl ?_); refine goesL_ (some 15) rfl rfl Tryd.func7 (by kernel_rfl) rfl #[.int .i64 a0] rfl (by (try simp only [List.map_toArray, List.map_cons, List.map_nil]); first | done | rfl | (simp only [List.length_drop, List.length_take]; rfl)) ?_; (with_reducible refine (fix_Sine.calls k a0 t228 t229 t230 _ A2.out).mono ?_); rintro e w36 ⟨rfl, hb⟩; refine ⟨_, rfl, ?_⟩; have n0_ := Aside0.mk (below_step (by repeat (first | (with_reducible first | exact HB.out | apply below_alloc | apply pw_below_drewN | apply below_drew1) | exact HB.out)) hb); clear HB; have HB := n0_; clear n0_; (try clear hb); (try clear hb2); (try clear hk); (try clear hi)) | (go_at_call 8; (with_reducible refine (fleuronlaw02_awake.callsT k   _ ?side1 (Aside0.mk (by have z_ := A35.out; rw [show t231 = true by assumption] at z_; exact z_)).out).mono ?_); (case side1 => exact LaidOK.below HT_.out (by repeat (first | (with_reducible first | exact HB.out | apply below_alloc | apply pw_below_drewN | apply below_drew1) | exact HB.out))); rintro e w37 ⟨rfl, hb⟩; have n0_ := Aside0.mk (below_step (by repeat (first | (with_reducible first | exact HB.out | apply below_alloc | apply pw_below_drewN | apply below_drew1) | exact HB.out)) hb); clear HB; have HB := n0_; clear n0_; (try clear hb); (try clear hb2); (try clear hk); (try clear hi)))
          go_ret
          exact ⟨by first | rfl | (simp [errW_none, errW_some] <;> rfl) | (simp [*, errW_none, errW_some] <;> rfl), by repeat (first | (with_reducible first | exact HB.out | apply below_alloc | apply pw_below_drewN | apply below_drew1) | exact HB.out)⟩
        · rw [if_neg c34] at H
          have c34b0 : (t230 == 2) = false := beq_eq_false_iff_ne.mpr c34
          have c34b1 : (t230 != 2) = true := bne_iff_ne.mpr c34
          exact absurd H (by simp)
      · rw [if_neg c33] at H
        have c33b0 : (t229 == 0) = false := beq_eq_false_iff_ne.mpr c33
        have c33b1 : (t229 != 0) = true := bne_iff_ne.mpr c33
        exact absurd H (by simp)
    · rw [if_neg c32] at H
      have c32b0 : (t228 == 0) = false := beq_eq_false_iff_ne.mpr c32
      have c32b1 : (t228 != 0) = true := bne_iff_ne.mpr c32
      exact absurd H (by simp)

/-- THE ONE PURE STATEMENT of fleuronlaw02_FixQuarters: yours. -/
def fleuronlaw02_FixQuarters.Pure : Prop := ∀ (a0 : Int), (Lit.int .i64 a0).wf = true → ∃ k, fleuronlaw02_FixQuarters.f k a0 = some true
theorem fleuronlaw02_FixQuarters.walk (P : fleuronlaw02_FixQuarters.Pure) (a0 : Int) (w : World) (w0 : (Lit.int .i64 a0).wf = true) (ht_ : LaidOK w) :
    Calls Tryd.prog 3 #[.int .i64 a0] w fun e w' => e = .returned (.bool true) ∧ Below w.heap.size w w' := by
  obtain ⟨k, h⟩ := P a0 w0
  refine (fleuronlaw02_FixQuarters.callsT k a0 w ht_ h).mono ?_
  rintro e w' ⟨rfl, hd⟩
  exact ⟨rfl, hd⟩

end Go.Proofs.YtjaifahodfljkaaDoor.Z
