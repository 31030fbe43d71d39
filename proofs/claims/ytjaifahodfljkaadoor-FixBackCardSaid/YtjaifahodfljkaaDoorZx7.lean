/- Laid by program (this session's, over the kit's print): functions of this seat as plain Lean functions, each with its contract. -/
import Derived.Test.YtjaifahodfljkaaDoorZx0
import Derived.Test.YtjaifahodfljkaaDoorZx2
import Derived.Test.YtjaifahodfljkaaDoorZx3
import Derived.Test.YtjaifahodfljkaaDoorZx4
namespace Go.Proofs.YtjaifahodfljkaaDoor.Z
open Go.RowKit Go.Proofs.YtjaifahodfljkaaDoorW.PrintWords Go.Proofs.YtjaifahodfljkaaDoorW.PrintLast Go.Proofs.YtjaifahodfljkaaDoorW.PrintMore
attribute [local go_sem] max2_int min2_int max_two min_two max_three min_three max_four min_four   -- for this text's walks alone
set_option linter.unusedVariables false
set_option linter.unusedSimpArgs false

/-! ### fleuronlaw02_FixBack: function 5 -/
mutual
def fleuronlaw02_FixBack.j0 : Nat → Int → Int → ByteArray → Int → Bool → Option (Bool)
  | 0, _, _, _, _, _ => none
  | k + 1, x0, x1, x5, x6, x24 => if x24 = true then (if x5.toList = ([] : List UInt8) then (if x6 = 2 then ((fleuronlaw02_awake.f k).bind fun t249 => (some t249)) else (some false)) else (some false)) else ((fix_Parse.f k x5).bind fun bt250 => (if x6 = 0 then (if bt250.2 = 0 then (fleuronlaw02_FixBack.j1 k x0 x1 x5 (bt250.1 != x0)) else (fleuronlaw02_FixBack.j1 k x0 x1 x5 true)) else (fleuronlaw02_FixBack.j1 k x0 x1 x5 true)))
def fleuronlaw02_FixBack.j1 : Nat → Int → Int → ByteArray → Bool → Option (Bool)
  | 0, _, _, _, _ => none
  | k + 1, x0, x1, x5, x49 => if x49 = true then (some false) else (fleuronlaw02_FixBack.l0 k x0 x1 x5 (-1) 0)
def fleuronlaw02_FixBack.l0 : Nat → Int → Int → ByteArray → Int → Int → Option (Bool)
  | 0, _, _, _, _, _ => none
  | k + 1, x0, x1, x5, x9, x10 => if x10 < (x5.size : Int) then (if 0 ≤ x10 then (if (bt x5 x10) = 46 then (fleuronlaw02_FixBack.l0 k x0 x1 x5 x10 (wrap64 (x10 + 1))) else (fleuronlaw02_FixBack.l0 k x0 x1 x5 x9 (wrap64 (x10 + 1)))) else (none)) else (if ((decide (x9 < 0)) != ((Int.tmod x0 65536) == 0)) = true then (fleuronlaw02_FixBack.j3 k x0 x1 x5 x9 true) else (if x9 ≥ 0 then (fleuronlaw02_FixBack.j3 k x0 x1 x5 x9 (decide ((wrap64 ((x5.size : Int) - x9)) > 6))) else (fleuronlaw02_FixBack.j3 k x0 x1 x5 x9 false)))
def fleuronlaw02_FixBack.j3 : Nat → Int → Int → ByteArray → Int → Bool → Option (Bool)
  | 0, _, _, _, _, _ => none
  | k + 1, x0, x1, x5, x9, x77 => if x77 = true then (some false) else (if x9 ≥ 0 then (if 0 ≤ (wrap64 ((x5.size : Int) - 1)) then (if (wrap64 ((x5.size : Int) - 1)) ≤ (x5.size : Int) then (if (wrap64 ((x5.size : Int) - x9)) = 2 then (if 0 ≤ x9 then (if x9 ≤ (x5.size : Int) then (fleuronlaw02_FixBack.j4 k x0 (x5.extract 0 (x9 : Int).toNat)) else (none)) else (none)) else (if (Int.tmod x1 2) = 1 then (if 0 ≤ (wrap64 (((x5.extract 0 ((wrap64 ((x5.size : Int) - 1)) : Int).toNat).size : Int) - 1)) then (if (wrap64 (((x5.extract 0 ((wrap64 ((x5.size : Int) - 1)) : Int).toNat).size : Int) - 1)) < ((x5.extract 0 ((wrap64 ((x5.size : Int) - 1)) : Int).toNat).size : Int) then (if (bt (x5.extract 0 ((wrap64 ((x5.size : Int) - 1)) : Int).toNat) (wrap64 (((x5.extract 0 ((wrap64 ((x5.size : Int) - 1)) : Int).toNat).size : Int) - 1))) < 57 then (if (wrap64 (((x5.extract 0 ((wrap64 ((x5.size : Int) - 1)) : Int).toNat).size : Int) - 1)) ≤ ((x5.extract 0 ((wrap64 ((x5.size : Int) - 1)) : Int).toNat).size : Int) then (if ((x5.extract 0 ((wrap64 ((x5.size : Int) - 1)) : Int).toNat).extract 0 ((wrap64 (((x5.extract 0 ((wrap64 ((x5.size : Int) - 1)) : Int).toNat).size : Int) - 1)) : Int).toNat).size + (Utf8.encode (((bt (x5.extract 0 ((wrap64 ((x5.size : Int) - 1)) : Int).toNat) (wrap64 (((x5.extract 0 ((wrap64 ((x5.size : Int) - 1)) : Int).toNat).size : Int) - 1))) + 1) % 256)).size ≤ 9223372036854775807 then (fleuronlaw02_FixBack.j4 k x0 (((x5.extract 0 ((wrap64 ((x5.size : Int) - 1)) : Int).toNat).extract 0 ((wrap64 (((x5.extract 0 ((wrap64 ((x5.size : Int) - 1)) : Int).toNat).size : Int) - 1)) : Int).toNat) ++ (Utf8.encode (((bt (x5.extract 0 ((wrap64 ((x5.size : Int) - 1)) : Int).toNat) (wrap64 (((x5.extract 0 ((wrap64 ((x5.size : Int) - 1)) : Int).toNat).size : Int) - 1))) + 1) % 256)))) else (none)) else (none)) else (fleuronlaw02_FixBack.j4 k x0 (x5.extract 0 ((wrap64 ((x5.size : Int) - 1)) : Int).toNat))) else (none)) else (none)) else (fleuronlaw02_FixBack.j4 k x0 (x5.extract 0 ((wrap64 ((x5.size : Int) - 1)) : Int).toNat)))) else (none)) else (none)) else ((fleuronlaw02_awake.f k).bind fun t256 => (some t256)))
def fleuronlaw02_FixBack.j4 : Nat → Int → ByteArray → Option (Bool)
  | 0, _, _ => none
  | k + 1, x0, x11 => (fix_Parse.f k x11).bind fun bt252 => (if bt252.2 = 0 then (if bt252.1 = x0 then (some false) else ((fleuronlaw02_awake.f k).bind fun t254 => (some t254))) else ((fleuronlaw02_awake.f k).bind fun t255 => (some t255)))
end
def fleuronlaw02_FixBack.f (k : Nat) (a0 : Int) (a1 : Int) : Option (Bool) := (fix_Text.f k a0).bind fun bt247 => (if a0 < (-2147483647) then (fleuronlaw02_FixBack.j0 k a0 a1 bt247.1 bt247.2 true) else (fleuronlaw02_FixBack.j0 k a0 a1 bt247.1 bt247.2 (decide (a0 > 2147483647))))
theorem fleuronlaw02_FixBack.mono_l : ∀ k, (∀ y0 y1 y2 y3 y4, LeO (fleuronlaw02_FixBack.j0 k y0 y1 y2 y3 y4) (fleuronlaw02_FixBack.j0 (k + 1) y0 y1 y2 y3 y4)) ∧ (∀ y0 y1 y2 y3, LeO (fleuronlaw02_FixBack.j1 k y0 y1 y2 y3) (fleuronlaw02_FixBack.j1 (k + 1) y0 y1 y2 y3)) ∧ (∀ y0 y1 y2 y3 y4, LeO (fleuronlaw02_FixBack.l0 k y0 y1 y2 y3 y4) (fleuronlaw02_FixBack.l0 (k + 1) y0 y1 y2 y3 y4)) ∧ (∀ y0 y1 y2 y3 y4, LeO (fleuronlaw02_FixBack.j3 k y0 y1 y2 y3 y4) (fleuronlaw02_FixBack.j3 (k + 1) y0 y1 y2 y3 y4)) ∧ (∀ y0 y1, LeO (fleuronlaw02_FixBack.j4 k y0 y1) (fleuronlaw02_FixBack.j4 (k + 1) y0 y1))
  | 0 => ⟨fun _ _ _ _ _ r h => by simp [fleuronlaw02_FixBack.j0] at h, fun _ _ _ _ r h => by simp [fleuronlaw02_FixBack.j1] at h, fun _ _ _ _ _ r h => by simp [fleuronlaw02_FixBack.l0] at h, fun _ _ _ _ _ r h => by simp [fleuronlaw02_FixBack.j3] at h, fun _ _ r h => by simp [fleuronlaw02_FixBack.j4] at h⟩
  | k + 1 => by
    obtain ⟨ih0, ih1, ih2, ih3, ih4⟩ := fleuronlaw02_FixBack.mono_l k
    refine ⟨?_, ?_, ?_, ?_, ?_⟩
    · intro y0 y1 y2 y3 y4
      unfold fleuronlaw02_FixBack.j0
      repeat' first
      | (with_reducible exact ih0 _ _ _ _ _)
      | (with_reducible exact ih1 _ _ _ _)
      | (with_reducible exact ih2 _ _ _ _ _)
      | (with_reducible exact ih3 _ _ _ _ _)
      | (with_reducible exact ih4 _ _)
      | (with_reducible exact fix_Parse.mono _ _)
      | (with_reducible exact fix_Text.mono _ _)
      | (with_reducible exact fleuronlaw02_awake.mono _)
      | (with_reducible exact LeO.refl _)
      | (with_reducible exact LeO.none _)
      | (with_reducible refine LeO.ite ?_ ?_)
      | (with_reducible refine LeO.bind ?_ (fun _ => ?_))
      | exact ih0 _ _ _ _ _
      | exact ih1 _ _ _ _
      | exact ih2 _ _ _ _ _
      | exact ih3 _ _ _ _ _
      | exact ih4 _ _
      | exact fix_Parse.mono _ _
      | exact fix_Text.mono _ _
      | exact fleuronlaw02_awake.mono _
      | exact LeO.none _
      | refine LeO.ite ?_ ?_
      | refine LeO.bind ?_ (fun _ => ?_)
    · intro y0 y1 y2 y3
      unfold fleuronlaw02_FixBack.j1
      repeat' first
      | (with_reducible exact ih0 _ _ _ _ _)
      | (with_reducible exact ih1 _ _ _ _)
      | (with_reducible exact ih2 _ _ _ _ _)
      | (with_reducible exact ih3 _ _ _ _ _)
      | (with_reducible exact ih4 _ _)
      | (with_reducible exact fix_Parse.mono _ _)
      | (with_reducible exact fix_Text.mono _ _)
      | (with_reducible exact fleuronlaw02_awake.mono _)
      | (with_reducible exact LeO.refl _)
      | (with_reducible exact LeO.none _)
      | (with_reducible refine LeO.ite ?_ ?_)
      | (with_reducible refine LeO.bind ?_ (fun _ => ?_))
      | exact ih0 _ _ _ _ _
      | exact ih1 _ _ _ _
      | exact ih2 _ _ _ _ _
      | exact ih3 _ _ _ _ _
      | exact ih4 _ _
      | exact fix_Parse.mono _ _
      | exact fix_Text.mono _ _
      | exact fleuronlaw02_awake.mono _
      | exact LeO.none _
      | refine LeO.ite ?_ ?_
      | refine LeO.bind ?_ (fun _ => ?_)
    · intro y0 y1 y2 y3 y4
      unfold fleuronlaw02_FixBack.l0
      repeat' first
      | (with_reducible exact ih0 _ _ _ _ _)
      | (with_reducible exact ih1 _ _ _ _)
      | (with_reducible exact ih2 _ _ _ _ _)
      | (with_reducible exact ih3 _ _ _ _ _)
      | (with_reducible exact ih4 _ _)
      | (with_reducible exact fix_Parse.mono _ _)
      | (with_reducible exact fix_Text.mono _ _)
      | (with_reducible exact fleuronlaw02_awake.mono _)
      | (with_reducible exact LeO.refl _)
      | (with_reducible exact LeO.none _)
      | (with_reducible refine LeO.ite ?_ ?_)
      | (with_reducible refine LeO.bind ?_ (fun _ => ?_))
      | exact ih0 _ _ _ _ _
      | exact ih1 _ _ _ _
      | exact ih2 _ _ _ _ _
      | exact ih3 _ _ _ _ _
      | exact ih4 _ _
      | exact fix_Parse.mono _ _
      | exact fix_Text.mono _ _
      | exact fleuronlaw02_awake.mono _
      | exact LeO.none _
      | refine LeO.ite ?_ ?_
      | refine LeO.bind ?_ (fun _ => ?_)
    · intro y0 y1 y2 y3 y4
      unfold fleuronlaw02_FixBack.j3
      repeat' first
      | (with_reducible exact ih0 _ _ _ _ _)
      | (with_reducible exact ih1 _ _ _ _)
      | (with_reducible exact ih2 _ _ _ _ _)
      | (with_reducible exact ih3 _ _ _ _ _)
      | (with_reducible exact ih4 _ _)
      | (with_reducible exact fix_Parse.mono _ _)
      | (with_reducible exact fix_Text.mono _ _)
      | (with_reducible exact fleuronlaw02_awake.mono _)
      | (with_reducible exact LeO.refl _)
      | (with_reducible exact LeO.none _)
      | (with_reducible refine LeO.ite ?_ ?_)
      | (with_reducible refine LeO.bind ?_ (fun _ => ?_))
      | exact ih0 _ _ _ _ _
      | exact ih1 _ _ _ _
      | exact ih2 _ _ _ _ _
      | exact ih3 _ _ _ _ _
      | exact ih4 _ _
      | exact fix_Parse.mono _ _
      | exact fix_Text.mono _ _
      | exact fleuronlaw02_awake.mono _
      | exact LeO.none _
      | refine LeO.ite ?_ ?_
      | refine LeO.bind ?_ (fun _ => ?_)
    · intro y0 y1
      unfold fleuronlaw02_FixBack.j4
      repeat' first
      | (with_reducible exact ih0 _ _ _ _ _)
      | (with_reducible exact ih1 _ _ _ _)
      | (with_reducible exact ih2 _ _ _ _ _)
      | (with_reducible exact ih3 _ _ _ _ _)
      | (with_reducible exact ih4 _ _)
      | (with_reducible exact fix_Parse.mono _ _)
      | (with_reducible exact fix_Text.mono _ _)
      | (with_reducible exact fleuronlaw02_awake.mono _)
      | (with_reducible exact LeO.refl _)
      | (with_reducible exact LeO.none _)
      | (with_reducible refine LeO.ite ?_ ?_)
      | (with_reducible refine LeO.bind ?_ (fun _ => ?_))
      | exact ih0 _ _ _ _ _
      | exact ih1 _ _ _ _
      | exact ih2 _ _ _ _ _
      | exact ih3 _ _ _ _ _
      | exact ih4 _ _
      | exact fix_Parse.mono _ _
      | exact fix_Text.mono _ _
      | exact fleuronlaw02_awake.mono _
      | exact LeO.none _
      | refine LeO.ite ?_ ?_
      | refine LeO.bind ?_ (fun _ => ?_)
theorem fleuronlaw02_FixBack.mono : ∀ a0 a1 k, LeO (fleuronlaw02_FixBack.f k a0 a1) (fleuronlaw02_FixBack.f (k + 1) a0 a1) := by
  intro a0 a1 k
  obtain ⟨ih0, ih1, ih2, ih3, ih4⟩ := fleuronlaw02_FixBack.mono_l k
  unfold fleuronlaw02_FixBack.f
  repeat' first
      | (with_reducible exact ih0 _ _ _ _ _)
      | (with_reducible exact ih1 _ _ _ _)
      | (with_reducible exact ih2 _ _ _ _ _)
      | (with_reducible exact ih3 _ _ _ _ _)
      | (with_reducible exact ih4 _ _)
      | (with_reducible exact fix_Parse.mono _ _)
      | (with_reducible exact fix_Text.mono _ _)
      | (with_reducible exact fleuronlaw02_awake.mono _)
      | (with_reducible exact LeO.refl _)
      | (with_reducible exact LeO.none _)
      | (with_reducible refine LeO.ite ?_ ?_)
      | (with_reducible refine LeO.bind ?_ (fun _ => ?_))
      | exact ih0 _ _ _ _ _
      | exact ih1 _ _ _ _
      | exact ih2 _ _ _ _ _
      | exact ih3 _ _ _ _ _
      | exact ih4 _ _
      | exact fix_Parse.mono _ _
      | exact fix_Text.mono _ _
      | exact fleuronlaw02_awake.mono _
      | exact LeO.none _
      | refine LeO.ite ?_ ?_
      | refine LeO.bind ?_ (fun _ => ?_)
set_option maxHeartbeats 8000000 in
set_option maxRecDepth 100000 in
theorem fleuronlaw02_FixBack.callsT (k : Nat) (a0 : Int) (a1 : Int) (w : World) (ht_ : LaidOK w) (h : fleuronlaw02_FixBack.f k a0 a1 = some true) :
    Calls Tryd.prog 5 #[.int .i64 a0, .int .u8 a1] w fun e w' => e = .returned (.bool true) ∧ Below w.heap.size w w' := by
  have HB := Aside0.mk (Below.refl w.heap.size w)
  have HT_ := Aside0.mk ht_
  clear ht_
  have H : ((fix_Text.f k a0).bind fun bt247 => (if a0 < (-2147483647) then (fleuronlaw02_FixBack.j0 k a0 a1 bt247.1 bt247.2 true) else (fleuronlaw02_FixBack.j0 k a0 a1 bt247.1 bt247.2 (decide (a0 > 2147483647))))) = some true := h
  clear h
  replace H := Option.bind_eq_some_iff.mp H
  obtain ⟨⟨t247, t248⟩, A30, H⟩ := H
  replace H : (if a0 < (-2147483647) then (fleuronlaw02_FixBack.j0 k a0 a1 t247 t248 true) else (fleuronlaw02_FixBack.j0 k a0 a1 t247 t248 (decide (a0 > 2147483647)))) = some true := H
  have A3 := Aside0.mk A30
  clear A30
  have HC4 := Aside0.mk H
  clear H
  go_enter Tryd.func5, Tryd.ntmps5
  go_upto_region 2 with (first | (go_at_call 11; (with_reducible refine (fix_Text.calls k a0 t247 t248 _ ?side1 A3.out).mono ?_); (case side1 => exact LaidOK.below HT_.out (by repeat (first | (with_reducible first | exact HB.out | apply below_alloc | apply pw_below_drewN | apply below_drew1) | exact HB.out))); rintro e w5 ⟨rfl, hb⟩; have n0_ := Aside0.mk (below_step (by repeat (first | (with_reducible first | exact HB.out | apply below_alloc | apply pw_below_drewN | apply below_drew1) | exact HB.out)) hb); clear HB; have HB := n0_; clear n0_; (try clear hb); (try clear hb2); (try clear hk); (try clear hi)))
  repeat (go_quiet (first | (go_at_call 11; (with_reducible refine (fix_Text.calls k a0 t247 t248 _ ?side1 A3.out).mono ?_); (case side1 => exact LaidOK.below HT_.out (by repeat (first | (with_reducible first | exact HB.out | apply below_alloc | apply pw_below_drewN | apply below_drew1) | exact HB.out))); rintro e w5 ⟨rfl, hb⟩; have n0_ := Aside0.mk (below_step (by repeat (first | (with_reducible first | exact HB.out | apply below_alloc | apply pw_below_drewN | apply below_drew1) | exact HB.out)) hb); clear HB; have HB := n0_; clear n0_; (try clear hb); (try clear hb2); (try clear hk); (try clear hi))); go_upto_region 2 with (first | (go_at_call 11; (with_reducible refine (fix_Text.calls k a0 t247 t248 _ ?side1 A3.out).mono ?_); (case side1 => exact LaidOK.below HT_.out (by repeat (first | (with_reducible first | exact HB.out | apply below_alloc | apply pw_below_drewN | apply below_drew1) | exact HB.out))); rintro e w5 ⟨rfl, hb⟩; have n0_ := Aside0.mk (below_step (by repeat (first | (with_reducible first | exact HB.out | apply below_alloc | apply pw_below_drewN | apply below_drew1) | exact HB.out)) hb); clear HB; have HB := n0_; clear n0_; (try clear hb); (try clear hb2); (try clear hk); (try clear hi))))
  (try simp only [Act.put, List.setIfInBounds_toArray, List.set_cons_zero, List.set_cons_succ])
  go_cut [24] (fun v24 wc => ∃ (kq : Nat) (x24_3 : Bool), v24 = .bool x24_3 ∧ Aside0 (fleuronlaw02_FixBack.j0 kq a0 a1 t247 t248 x24_3 = some true) ∧ Aside0 (kq ≤ k) ∧ Aside0 (Below w.heap.size w wc))
  case first =>
    have H := HC4.out
    clear HC4
    by_cases c6 : a0 < (-2147483647)
    · rw [if_pos c6] at H
      have c6b0 : decide (a0 < (-2147483647)) = true := decide_eq_true c6
      clear c6
      (first | rw [c6b0] | (simp only [i64_w, i32_w]; rw [c6b0]) | skip)
      have H' := Aside0.mk H
      clear H
      go_wp2
      repeat (go_quiet (fail); try go_wp2)
      go_meet
      case rel => exact ⟨_, (true), (by first | rfl | (simp; done) | (simp [*]; done)), H', ⟨by first | omega | exact Nat.le_refl _⟩, ⟨by repeat (first | (with_reducible first | exact HB.out | apply below_alloc | apply pw_below_drewN | apply below_drew1) | exact HB.out)⟩⟩
    · rw [if_neg c6] at H
      have c6b0 : decide (a0 < (-2147483647)) = false := decide_eq_false c6
      clear c6
      (first | rw [c6b0] | (simp only [i64_w, i32_w]; rw [c6b0]) | skip)
      have H' := Aside0.mk H
      clear H
      go_wp2
      repeat (go_quiet (fail); try go_wp2)
      go_meet
      case rel => exact ⟨_, (decide (a0 > 2147483647)), (by first | rfl | (simp; done) | (simp [*]; done)), H', ⟨by first | omega | exact Nat.le_refl _⟩, ⟨by repeat (first | (with_reducible first | exact HB.out | apply below_alloc | apply pw_below_drewN | apply below_drew1) | exact HB.out)⟩⟩
  case rest =>
    clear HC4
    try clear p2
    try clear c5
    try clear c6
    try clear c6b0
    obtain ⟨kq, x24_3, rfl, HA, HJ3, HB⟩ := hcut
    cases kq with
    | zero => exact absurd HA.out (by simp [fleuronlaw02_FixBack.j0])
    | succ kj3 =>
      have H := HA.out
      clear HA
      simp only [fleuronlaw02_FixBack.j0] at H
      by_cases c7 : x24_3 = true
      · subst c7
        have H1 : (if t247.toList = ([] : List UInt8) then (if t248 = 2 then ((fleuronlaw02_awake.f kj3).bind fun t249 => (some t249)) else (some false)) else (some false)) = some true := by rw [if_pos rfl] at H; exact H
        clear H
        have H := H1
        clear H1
        by_cases c8 : t247.toList = ([] : List UInt8)
        · rw [if_pos c8] at H
          have c8b0 : (t247.toList == ([] : List UInt8)) = true := beq_iff_eq.mpr c8
          have c8b1 : (t247.toList != ([] : List UInt8)) = false := bne_eq_false_iff_eq.mpr c8
          clear c8
          by_cases c9 : t248 = 2
          · rw [if_pos c9] at H
            have c9b0 : (t248 == 2) = true := beq_iff_eq.mpr c9
            have c9b1 : (t248 != 2) = false := bne_eq_false_iff_eq.mpr c9
            clear c9
            replace H := Option.bind_eq_some_iff.mp H
            obtain ⟨t249, A100, H⟩ := H
            replace H : (some t249) = some true := H
            have A10 := Aside0.mk A100
            clear A100
            have hr_ := Option.some.inj H
            clear H
            go_wp2_with (first | (go_at_call 8; (with_reducible refine (fleuronlaw02_awake.callsT kj3   _ ?side1 (Aside0.mk (by have z_ := A10.out; rw [show t249 = true by assumption] at z_; exact z_)).out).mono ?_); (case side1 => exact LaidOK.below HT_.out (by repeat (first | (with_reducible first | exact HB.out | apply below_alloc | apply pw_below_drewN | apply below_drew1) | exact HB.out))); rintro e w11 ⟨rfl, hb⟩; have n0_ := Aside0.mk (below_step (by repeat (first | (with_reducible first | exact HB.out | apply below_alloc | apply pw_below_drewN | apply below_drew1) | exact HB.out)) hb); clear HB; have HB := n0_; clear n0_; (try clear hb); (try clear hb2); (try clear hk); (try clear hi)))
            repeat (go_quiet (first | (go_at_call 8; (with_reducible refine (fleuronlaw02_awake.callsT kj3   _ ?side1 (Aside0.mk (by have z_ := A10.out; rw [show t249 = true by assumption] at z_; exact z_)).out).mono ?_); (case side1 => exact LaidOK.below HT_.out (by repeat (first | (with_reducible first | exact HB.out | apply below_alloc | apply pw_below_drewN | apply below_drew1) | exact HB.out))); rintro e w11 ⟨rfl, hb⟩; have n0_ := Aside0.mk (below_step (by repeat (first | (with_reducible first | exact HB.out | apply below_alloc | apply pw_below_drewN | apply below_drew1) | exact HB.out)) hb); clear HB; have HB := n0_; clear n0_; (try clear hb); (try clear hb2); (try clear hk); (try clear hi))); try go_wp2_with (first | (go_at_call 8; (with_reducible refine (fleuronlaw02_awake.callsT kj3   _ ?side1 (Aside0.mk (by have z_ := A10.out; rw [show t249 = true by assumption] at z_; exact z_)).out).mono ?_); (case side1 => exact LaidOK.below HT_.out (by repeat (first | (with_reducible first | exact HB.out | apply below_alloc | apply pw_below_drewN | apply below_drew1) | exact HB.out))); rintro e w11 ⟨rfl, hb⟩; have n0_ := Aside0.mk (below_step (by repeat (first | (with_reducible first | exact HB.out | apply below_alloc | apply pw_below_drewN | apply below_drew1) | exact HB.out)) hb); clear HB; have HB := n0_; clear n0_; (try clear hb); (try clear hb2); (try clear hk); (try clear hi))))
            go_ret
            exact ⟨by first | rfl | (simp [errW_none, errW_some] <;> rfl) | (simp [*, errW_none, errW_some] <;> rfl), by repeat (first | (with_reducible first | exact HB.out | apply below_alloc | apply pw_below_drewN | apply below_drew1) | exact HB.out)⟩
          · rw [if_neg c9] at H
            have c9b0 : (t248 == 2) = false := beq_eq_false_iff_ne.mpr c9
            have c9b1 : (t248 != 2) = true := bne_iff_ne.mpr c9
            exact absurd H (by simp)
        · rw [if_neg c8] at H
          have c8b0 : (t247.toList == ([] : List UInt8)) = false := beq_eq_false_iff_ne.mpr c8
          have c8b1 : (t247.toList != ([] : List UInt8)) = true := bne_iff_ne.mpr c8
          exact absurd H (by simp)
      · replace c7 := Bool.eq_false_iff.mpr c7
        subst c7
        have H1 : ((fix_Parse.f kj3 t247).bind fun bt250 => (if t248 = 0 then (if bt250.2 = 0 then (fleuronlaw02_FixBack.j1 kj3 a0 a1 t247 (bt250.1 != a0)) else (fleuronlaw02_FixBack.j1 kj3 a0 a1 t247 true)) else (fleuronlaw02_FixBack.j1 kj3 a0 a1 t247 true))) = some true := by rw [if_neg (show ¬ (false = true) by decide)] at H; exact H
        clear H
        have H := H1
        clear H1
        replace H := Option.bind_eq_some_iff.mp H
        obtain ⟨⟨t250, t251⟩, A120, H⟩ := H
        replace H : (if t248 = 0 then (if t251 = 0 then (fleuronlaw02_FixBack.j1 kj3 a0 a1 t247 (t250 != a0)) else (fleuronlaw02_FixBack.j1 kj3 a0 a1 t247 true)) else (fleuronlaw02_FixBack.j1 kj3 a0 a1 t247 true)) = some true := H
        have A12 := Aside0.mk A120
        clear A120
        have HC13 := Aside0.mk H
        clear H
        go_upto_region 5 with (first | (go_at_call 12; (with_reducible refine (fix_Parse.calls kj3 t247 t250 t251 _ ?side1 A12.out).mono ?_); (case side1 => exact LaidOK.below HT_.out (by repeat (first | (with_reducible first | exact HB.out | apply below_alloc | apply pw_below_drewN | apply below_drew1) | exact HB.out))); rintro e w14 ⟨rfl, hb⟩; have n0_ := Aside0.mk (below_step (by repeat (first | (with_reducible first | exact HB.out | apply below_alloc | apply pw_below_drewN | apply below_drew1) | exact HB.out)) hb); clear HB; have HB := n0_; clear n0_; (try clear hb); (try clear hb2); (try clear hk); (try clear hi)))
        repeat (go_quiet (first | (go_at_call 12; (with_reducible refine (fix_Parse.calls kj3 t247 t250 t251 _ ?side1 A12.out).mono ?_); (case side1 => exact LaidOK.below HT_.out (by repeat (first | (with_reducible first | exact HB.out | apply below_alloc | apply pw_below_drewN | apply below_drew1) | exact HB.out))); rintro e w14 ⟨rfl, hb⟩; have n0_ := Aside0.mk (below_step (by repeat (first | (with_reducible first | exact HB.out | apply below_alloc | apply pw_below_drewN | apply below_drew1) | exact HB.out)) hb); clear HB; have HB := n0_; clear n0_; (try clear hb); (try clear hb2); (try clear hk); (try clear hi))); go_upto_region 5 with (first | (go_at_call 12; (with_reducible refine (fix_Parse.calls kj3 t247 t250 t251 _ ?side1 A12.out).mono ?_); (case side1 => exact LaidOK.below HT_.out (by repeat (first | (with_reducible first | exact HB.out | apply below_alloc | apply pw_below_drewN | apply below_drew1) | exact HB.out))); rintro e w14 ⟨rfl, hb⟩; have n0_ := Aside0.mk (below_step (by repeat (first | (with_reducible first | exact HB.out | apply below_alloc | apply pw_below_drewN | apply below_drew1) | exact HB.out)) hb); clear HB; have HB := n0_; clear n0_; (try clear hb); (try clear hb2); (try clear hk); (try clear hi))))
        (try simp only [Act.put, List.setIfInBounds_toArray, List.set_cons_zero, List.set_cons_succ])
        go_cut [49] (fun v49 wc => ∃ (kq : Nat) (x49_12 : Bool), v49 = .bool x49_12 ∧ Aside0 (fleuronlaw02_FixBack.j1 kq a0 a1 t247 x49_12 = some true) ∧ Aside0 (kq ≤ kj3) ∧ Aside0 (Below w.heap.size w wc))
        case first =>
          have H := HC13.out
          clear HC13
          by_cases c15 : t248 = 0
          · rw [if_pos c15] at H
            have c15b0 : (t248 == 0) = true := beq_iff_eq.mpr c15
            have c15b1 : (t248 != 0) = false := bne_eq_false_iff_eq.mpr c15
            clear c15
            (first | rw [c15b0] | (simp only [i64_w, i32_w]; rw [c15b0]) | skip)
            by_cases c16 : t251 = 0
            · rw [if_pos c16] at H
              have c16b0 : (t251 == 0) = true := beq_iff_eq.mpr c16
              have c16b1 : (t251 != 0) = false := bne_eq_false_iff_eq.mpr c16
              clear c16
              have H' := Aside0.mk H
              clear H
              go_wp2
              repeat (go_quiet (fail); try go_wp2)
              go_meet
              case rel => exact ⟨_, ((t250 != a0)), (by first | rfl | (simp; done) | (simp [*]; done)), H', ⟨by have := HJ3.out; first | omega | exact Nat.le_refl _⟩, ⟨by repeat (first | (with_reducible first | exact HB.out | apply below_alloc | apply pw_below_drewN | apply below_drew1) | exact HB.out)⟩⟩
            · rw [if_neg c16] at H
              have c16b0 : (t251 == 0) = false := beq_eq_false_iff_ne.mpr c16
              have c16b1 : (t251 != 0) = true := bne_iff_ne.mpr c16
              have H' := Aside0.mk H
              clear H
              go_wp2
              repeat (go_quiet (fail); try go_wp2)
              go_meet
              case rel => exact ⟨_, (true), (by first | rfl | (simp; done) | (simp [*]; done)), H', ⟨by have := HJ3.out; first | omega | exact Nat.le_refl _⟩, ⟨by repeat (first | (with_reducible first | exact HB.out | apply below_alloc | apply pw_below_drewN | apply below_drew1) | exact HB.out)⟩⟩
          · rw [if_neg c15] at H
            have c15b0 : (t248 == 0) = false := beq_eq_false_iff_ne.mpr c15
            have c15b1 : (t248 != 0) = true := bne_iff_ne.mpr c15
            (first | rw [c15b0] | (simp only [i64_w, i32_w]; rw [c15b0]) | skip)
            have H' := Aside0.mk H
            clear H
            go_wp2
            repeat (go_quiet (fail); try go_wp2)
            go_meet
            case rel => exact ⟨_, (true), (by first | rfl | (simp; done) | (simp [*]; done)), H', ⟨by have := HJ3.out; first | omega | exact Nat.le_refl _⟩, ⟨by repeat (first | (with_reducible first | exact HB.out | apply below_alloc | apply pw_below_drewN | apply below_drew1) | exact HB.out)⟩⟩
        case rest =>
          clear HC13
          try clear c1
          try clear p2
          try clear c5
          try clear c6
          try clear c6b0
          try clear c7
          try clear c8
          try clear c8b0
          try clear c8b1
          try clear c9
          try clear c9b0
          try clear c9b1
          try clear c15
          try clear c15b0
          try clear c15b1
          try clear c16
          try clear c16b0
          try clear c16b1
          try clear p2
          obtain ⟨kq, x49_12, rfl, HA, HJ12, HB⟩ := hcut
          cases kq with
          | zero => exact absurd HA.out (by simp [fleuronlaw02_FixBack.j1])
          | succ kj12 =>
            have H := HA.out
            clear HA
            simp only [fleuronlaw02_FixBack.j1] at H
            by_cases c17 : x49_12 = true
            · subst c17
              have H1 : (some false) = some true := by rw [if_pos rfl] at H; exact H
              clear H
              have H := H1
              clear H1
              exact absurd H (by simp)
            · replace c17 := Bool.eq_false_iff.mpr c17
              subst c17
              have H1 : (fleuronlaw02_FixBack.l0 kj12 a0 a1 t247 (-1) 0) = some true := by rw [if_neg (show ¬ (false = true) by decide)] at H; exact H
              clear H
              have H := H1
              clear H1
              have H' := Aside0.mk H
              clear H
              go_wp2
              repeat (go_quiet (fail); try go_wp2)
              go_loopg [9, 10] kj12 (fun kq v9 v10 w' => ∃ (x9_3 : Int) (x10_3 : Int), v9 = .int .i64 x9_3 ∧ v10 = .int .i64 x10_3 ∧ Aside0 (fleuronlaw02_FixBack.l0 kq a0 a1 t247 x9_3 x10_3 = some true) ∧ Aside0 (kq ≤ kj12) ∧ Aside0 (Below w.heap.size w w'))
              case atStart => exact ⟨((-1)), (0), (by first | rfl | (simp; done) | (simp [*]; done)), (by first | rfl | (simp; done) | (simp [*]; done)), H', ⟨Nat.le_refl _⟩, ⟨by repeat (first | (with_reducible first | exact HB.out | apply below_alloc | apply pw_below_drewN | apply below_drew1) | exact HB.out)⟩⟩
              case round =>
                clear H'
                try clear c1
                try clear p2
                try clear c5
                try clear c6
                try clear c6b0
                try clear c7
                try clear c8
                try clear c8b0
                try clear c8b1
                try clear c9
                try clear c9b0
                try clear c9b1
                try clear c15
                try clear c15b0
                try clear c15b1
                try clear c16
                try clear c16b0
                try clear c16b1
                try clear c17
                try clear p2
                obtain ⟨x9_3, x10_3, rfl, rfl, HA, HK3, HB⟩ := hrel
                cases gk with
                | zero => exact absurd HA.out (by simp [fleuronlaw02_FixBack.l0])
                | succ k3 =>
                  have H := HA.out
                  clear HA
                  simp only [fleuronlaw02_FixBack.l0] at H
                  by_cases c18 : x10_3 < (t247.size : Int)
                  · rw [if_pos c18] at H
                    have c18b0 : decide (x10_3 < (t247.size : Int)) = true := decide_eq_true c18
                    clear c18
                    by_cases c19 : 0 ≤ x10_3
                    · rw [if_pos c19] at H
                      have c19b0 : decide (0 ≤ x10_3) = true := decide_eq_true c19
                      clear c19
                      by_cases c21 : (bt t247 x10_3) = 46
                      · rw [if_pos c21] at H
                        have c21b0 : ((bt t247 x10_3) == 46) = true := beq_iff_eq.mpr c21
                        have c21b1 : ((bt t247 x10_3) != 46) = false := bne_eq_false_iff_eq.mpr c21
                        clear c21
                        have H' := Aside0.mk H
                        clear H
                        have p20 : 0 ≤ (x10_3 : Int) := of_decide_eq_true (by first | (with_reducible assumption) | assumption)
                        have q20 : x10_3 < (t247.size : Int) := of_decide_eq_true (by first | (with_reducible assumption) | assumption)
                        have hx20 := bt_at t247 x10_3
                        replace p20 := eq_true p20
                        replace q20 := eq_true q20
                        go_wp2
                        repeat (go_quiet (fail); try go_wp2)
                        go_roundg k3
                        case measure => have := HJ3.out; have := HJ12.out; have := HK3.out; omega
                        case rel => exact ⟨(x10_3), (wrap64 (x10_3 + 1)), (by first | rfl | (simp; done) | (simp [*]; done)), (by first | rfl | (simp; done) | (simp [*]; done)), H', ⟨by have := HJ3.out; have := HJ12.out; have := HK3.out; omega⟩, ⟨by repeat (first | (with_reducible first | exact HB.out | apply below_alloc | apply pw_below_drewN | apply below_drew1) | exact HB.out)⟩⟩
                      · rw [if_neg c21] at H
                        have c21b0 : ((bt t247 x10_3) == 46) = false := beq_eq_false_iff_ne.mpr c21
                        have c21b1 : ((bt t247 x10_3) != 46) = true := bne_iff_ne.mpr c21
                        have H' := Aside0.mk H
                        clear H
                        have p20 : 0 ≤ (x10_3 : Int) := of_decide_eq_true (by first | (with_reducible assumption) | assumption)
                        have q20 : x10_3 < (t247.size : Int) := of_decide_eq_true (by first | (with_reducible assumption) | assumption)
                        have hx20 := bt_at t247 x10_3
                        replace p20 := eq_true p20
                        replace q20 := eq_true q20
                        go_wp2
                        repeat (go_quiet (fail); try go_wp2)
                        go_roundg k3
                        case measure => have := HJ3.out; have := HJ12.out; have := HK3.out; omega
                        case rel => exact ⟨(x9_3), (wrap64 (x10_3 + 1)), (by first | rfl | (simp; done) | (simp [*]; done)), (by first | rfl | (simp; done) | (simp [*]; done)), H', ⟨by have := HJ3.out; have := HJ12.out; have := HK3.out; omega⟩, ⟨by repeat (first | (with_reducible first | exact HB.out | apply below_alloc | apply pw_below_drewN | apply below_drew1) | exact HB.out)⟩⟩
                    · rw [if_neg c19] at H
                      exact absurd H (by simp)
                  · rw [if_neg c18] at H
                    have c18b0 : decide (x10_3 < (t247.size : Int)) = false := decide_eq_false c18
                    clear c18
                    have HC22 := Aside0.mk H
                    clear H
                    go_upto_region 13 with (fail)
                    repeat (go_quiet (fail); go_upto_region 13 with (fail))
                    go_cut [77] (fun v77 wc => ∃ (kq : Nat) (x77_21 : Bool), v77 = .bool x77_21 ∧ Aside0 (fleuronlaw02_FixBack.j3 kq a0 a1 t247 x9_3 x77_21 = some true) ∧ Aside0 (kq ≤ k3) ∧ Aside0 (Below w.heap.size w wc))
                    case first =>
                      have H := HC22.out
                      clear HC22
                      by_cases c23 : ((decide (x9_3 < 0)) != ((Int.tmod a0 65536) == 0)) = true
                      · rw [if_pos c23] at H
                        have c23b0 : ((decide (x9_3 < 0)) != ((Int.tmod a0 65536) == 0)) = true := c23
                        (try (have c23b1 : decide ((decide (x9_3 < 0)) = ((Int.tmod a0 65536) == 0)) = false := by simpa using c23))
                        (try (have c23b2 : ((decide (x9_3 < 0)) == ((Int.tmod a0 65536) == 0)) = false := by simpa using c23))
                        (try (have c23b3 : ¬ ((decide (x9_3 < 0)) = ((Int.tmod a0 65536) == 0)) := by simpa using c23))
                        clear c23
                        (first | rw [c23b0] | (simp only [i64_w, i32_w]; rw [c23b0]) | skip)
                        have H' := Aside0.mk H
                        clear H
                        go_wp2
                        repeat (go_quiet (fail); try go_wp2)
                        go_meet
                        case rel => exact ⟨_, (true), (by first | rfl | (simp; done) | (simp [*]; done)), H', ⟨by have := HJ3.out; have := HJ12.out; have := HK3.out; first | omega | exact Nat.le_refl _⟩, ⟨by repeat (first | (with_reducible first | exact HB.out | apply below_alloc | apply pw_below_drewN | apply below_drew1) | exact HB.out)⟩⟩
                      · rw [if_neg c23] at H
                        have c23b0 : ((decide (x9_3 < 0)) != ((Int.tmod a0 65536) == 0)) = false := by simpa using c23
                        (try (have c23b1 : decide ((decide (x9_3 < 0)) = ((Int.tmod a0 65536) == 0)) = true := by simpa using c23))
                        (try (have c23b2 : ((decide (x9_3 < 0)) == ((Int.tmod a0 65536) == 0)) = true := by simpa using c23))
                        clear c23
                        (first | rw [c23b0] | (simp only [i64_w, i32_w]; rw [c23b0]) | skip)
                        by_cases c24 : x9_3 ≥ 0
                        · rw [if_pos c24] at H
                          have c24b0 : decide (0 ≤ x9_3) = true := decide_eq_true c24
                          clear c24
                          have H' := Aside0.mk H
                          clear H
                          go_wp2
                          repeat (go_quiet (fail); try go_wp2)
                          go_meet
                          case rel => exact ⟨_, (decide ((wrap64 ((t247.size : Int) - x9_3)) > 6)), (by first | rfl | (simp; done) | (simp [*]; done)), H', ⟨by have := HJ3.out; have := HJ12.out; have := HK3.out; first | omega | exact Nat.le_refl _⟩, ⟨by repeat (first | (with_reducible first | exact HB.out | apply below_alloc | apply pw_below_drewN | apply below_drew1) | exact HB.out)⟩⟩
                        · rw [if_neg c24] at H
                          have c24b0 : decide (0 ≤ x9_3) = false := decide_eq_false c24
                          clear c24
                          have H' := Aside0.mk H
                          clear H
                          go_wp2
                          repeat (go_quiet (fail); try go_wp2)
                          go_meet
                          case rel => exact ⟨_, (false), (by first | rfl | (simp; done) | (simp [*]; done)), H', ⟨by have := HJ3.out; have := HJ12.out; have := HK3.out; first | omega | exact Nat.le_refl _⟩, ⟨by repeat (first | (with_reducible first | exact HB.out | apply below_alloc | apply pw_below_drewN | apply below_drew1) | exact HB.out)⟩⟩
                    case rest =>
                      clear HC22
                      try clear c1
                      try clear c2
                      try clear p2
                      try clear q2
                      try clear hx2
                      try clear c5
                      try clear c6
                      try clear c6b0
                      try clear p6
                      try clear c7
                      try clear c8
                      try clear c8b0
                      try clear c8b1
                      try clear c9
                      try clear c9b0
                      try clear c9b1
                      try clear c15
                      try clear c15b0
                      try clear c15b1
                      try clear c16
                      try clear c16b0
                      try clear c16b1
                      try clear c17
                      try clear c18
                      try clear c18b0
                      try clear c19
                      try clear c19b0
                      try clear p20
                      try clear q20
                      try clear hx20
                      try clear c21
                      try clear c21b0
                      try clear c21b1
                      try clear c23
                      try clear c23b0
                      try clear c23b1
                      try clear c23b2
                      try clear c24
                      try clear c24b0
                      try clear p2
                      try clear p20
                      try clear q20
                      obtain ⟨kq, x77_21, rfl, HA, HJ21, HB⟩ := hcut
                      cases kq with
                      | zero => exact absurd HA.out (by simp [fleuronlaw02_FixBack.j3])
                      | succ kj21 =>
                        have H := HA.out
                        clear HA
                        simp only [fleuronlaw02_FixBack.j3] at H
                        by_cases c25 : x77_21 = true
                        · subst c25
                          have H1 : (some false) = some true := by rw [if_pos rfl] at H; exact H
                          clear H
                          have H := H1
                          clear H1
                          exact absurd H (by simp)
                        · replace c25 := Bool.eq_false_iff.mpr c25
                          subst c25
                          have H1 : (if x9_3 ≥ 0 then (if 0 ≤ (wrap64 ((t247.size : Int) - 1)) then (if (wrap64 ((t247.size : Int) - 1)) ≤ (t247.size : Int) then (if (wrap64 ((t247.size : Int) - x9_3)) = 2 then (if 0 ≤ x9_3 then (if x9_3 ≤ (t247.size : Int) then (fleuronlaw02_FixBack.j4 kj21 a0 (t247.extract 0 (x9_3 : Int).toNat)) else (none)) else (none)) else (if (Int.tmod a1 2) = 1 then (if 0 ≤ (wrap64 (((t247.extract 0 ((wrap64 ((t247.size : Int) - 1)) : Int).toNat).size : Int) - 1)) then (if (wrap64 (((t247.extract 0 ((wrap64 ((t247.size : Int) - 1)) : Int).toNat).size : Int) - 1)) < ((t247.extract 0 ((wrap64 ((t247.size : Int) - 1)) : Int).toNat).size : Int) then (if (bt (t247.extract 0 ((wrap64 ((t247.size : Int) - 1)) : Int).toNat) (wrap64 (((t247.extract 0 ((wrap64 ((t247.size : Int) - 1)) : Int).toNat).size : Int) - 1))) < 57 then (if (wrap64 (((t247.extract 0 ((wrap64 ((t247.size : Int) - 1)) : Int).toNat).size : Int) - 1)) ≤ ((t247.extract 0 ((wrap64 ((t247.size : Int) - 1)) : Int).toNat).size : Int) then (if ((t247.extract 0 ((wrap64 ((t247.size : Int) - 1)) : Int).toNat).extract 0 ((wrap64 (((t247.extract 0 ((wrap64 ((t247.size : Int) - 1)) : Int).toNat).size : Int) - 1)) : Int).toNat).size + (Utf8.encode (((bt (t247.extract 0 ((wrap64 ((t247.size : Int) - 1)) : Int).toNat) (wrap64 (((t247.extract 0 ((wrap64 ((t247.size : Int) - 1)) : Int).toNat).size : Int) - 1))) + 1) % 256)).size ≤ 9223372036854775807 then (fleuronlaw02_FixBack.j4 kj21 a0 (((t247.extract 0 ((wrap64 ((t247.size : Int) - 1)) : Int).toNat).extract 0 ((wrap64 (((t247.extract 0 ((wrap64 ((t247.size : Int) - 1)) : Int).toNat).size : Int) - 1)) : Int).toNat) ++ (Utf8.encode (((bt (t247.extract 0 ((wrap64 ((t247.size : Int) - 1)) : Int).toNat) (wrap64 (((t247.extract 0 ((wrap64 ((t247.size : Int) - 1)) : Int).toNat).size : Int) - 1))) + 1) % 256)))) else (none)) else (none)) else (fleuronlaw02_FixBack.j4 kj21 a0 (t247.extract 0 ((wrap64 ((t247.size : Int) - 1)) : Int).toNat))) else (none)) else (none)) else (fleuronlaw02_FixBack.j4 kj21 a0 (t247.extract 0 ((wrap64 ((t247.size : Int) - 1)) : Int).toNat)))) else (none)) else (none)) else ((fleuronlaw02_awake.f kj21).bind fun t256 => (some t256))) = some true := by rw [if_neg (show ¬ (false = true) by decide)] at H; exact H
                          clear H
                          have H := H1
                          clear H1
                          by_cases c26 : x9_3 ≥ 0
                          · rw [if_pos c26] at H
                            have c26b0 : decide (0 ≤ x9_3) = true := decide_eq_true c26
                            clear c26
                            obtain ⟨ji27, hji27⟩ : ∃ j_ : Int, (wrap64 ((t247.size : Int) - 1)) = j_ := ⟨_, rfl⟩
                            replace H : (if 0 ≤ (ji27) then (if (ji27) ≤ (t247.size : Int) then (if (wrap64 ((t247.size : Int) - x9_3)) = 2 then (if 0 ≤ x9_3 then (if x9_3 ≤ (t247.size : Int) then (fleuronlaw02_FixBack.j4 kj21 a0 (t247.extract 0 (x9_3 : Int).toNat)) else (none)) else (none)) else (if (Int.tmod a1 2) = 1 then (if 0 ≤ (wrap64 (((t247.extract 0 ((ji27) : Int).toNat).size : Int) - 1)) then (if (wrap64 (((t247.extract 0 ((ji27) : Int).toNat).size : Int) - 1)) < ((t247.extract 0 ((ji27) : Int).toNat).size : Int) then (if (bt (t247.extract 0 ((ji27) : Int).toNat) (wrap64 (((t247.extract 0 ((ji27) : Int).toNat).size : Int) - 1))) < 57 then (if (wrap64 (((t247.extract 0 ((ji27) : Int).toNat).size : Int) - 1)) ≤ ((t247.extract 0 ((ji27) : Int).toNat).size : Int) then (if ((t247.extract 0 ((ji27) : Int).toNat).extract 0 ((wrap64 (((t247.extract 0 ((ji27) : Int).toNat).size : Int) - 1)) : Int).toNat).size + (Utf8.encode (((bt (t247.extract 0 ((ji27) : Int).toNat) (wrap64 (((t247.extract 0 ((ji27) : Int).toNat).size : Int) - 1))) + 1) % 256)).size ≤ 9223372036854775807 then (fleuronlaw02_FixBack.j4 kj21 a0 (((t247.extract 0 ((ji27) : Int).toNat).extract 0 ((wrap64 (((t247.extract 0 ((ji27) : Int).toNat).size : Int) - 1)) : Int).toNat) ++ (Utf8.encode (((bt (t247.extract 0 ((ji27) : Int).toNat) (wrap64 (((t247.extract 0 ((ji27) : Int).toNat).size : Int) - 1))) + 1) % 256)))) else (none)) else (none)) else (fleuronlaw02_FixBack.j4 kj21 a0 (t247.extract 0 ((ji27) : Int).toNat))) else (none)) else (none)) else (fleuronlaw02_FixBack.j4 kj21 a0 (t247.extract 0 ((ji27) : Int).toNat)))) else (none)) else (none)) = some true := by first | (rw [hji27] at H; exact H) | (simp only [hji27] at H ⊢; exact H)
                            have hji27w : (IntKind.i64.wrap ((t247.size : Int) - 1)) = ji27 := (i64_w _).trans hji27
                            obtain ⟨e27, he27⟩ : ∃ e_ : ByteArray, (t247.extract 0 (ji27 : Int).toNat) = e_ := ⟨_, rfl⟩
                            simp only [he27] at H
                            by_cases c28 : 0 ≤ (ji27)
                            · rw [if_pos c28] at H
                              have c28b0 := eq_true c28
                              have c28b1 : decide (0 ≤ (ji27)) = true := decide_eq_true c28
                              clear c28
                              by_cases c29 : (ji27) ≤ (t247.size : Int)
                              · rw [if_pos c29] at H
                                have c29b0 := eq_true c29
                                have c29b1 : decide ((ji27) ≤ (t247.size : Int)) = true := decide_eq_true c29
                                clear c29
                                have HC30 := Aside0.mk H
                                clear H
                                go_upto_if 89 with (fail)
                                repeat (go_quiet (fail); go_upto_if 89 with (fail))
                                go_cut [11] (fun v11 wc => ∃ (kq : Nat) (x11_29 : ByteArray), v11 = .string x11_29 ∧ Aside0 (fleuronlaw02_FixBack.j4 kq a0 x11_29 = some true) ∧ Aside0 (kq ≤ kj21) ∧ Aside0 (Below w.heap.size w wc))
                                case first =>
                                  have H := HC30.out
                                  clear HC30
                                  by_cases c31 : (wrap64 ((t247.size : Int) - x9_3)) = 2
                                  · rw [if_pos c31] at H
                                    have c31b0 : ((wrap64 ((t247.size : Int) - x9_3)) == 2) = true := beq_iff_eq.mpr c31
                                    have c31b1 : ((wrap64 ((t247.size : Int) - x9_3)) != 2) = false := bne_eq_false_iff_eq.mpr c31
                                    clear c31
                                    (first | rw [c31b0] | (simp only [i64_w, i32_w]; rw [c31b0]) | skip)
                                    by_cases c32 : 0 ≤ x9_3
                                    · rw [if_pos c32] at H
                                      have c32b0 := eq_true c32
                                      have c32b1 : decide (0 ≤ x9_3) = true := decide_eq_true c32
                                      clear c32
                                      by_cases c33 : x9_3 ≤ (t247.size : Int)
                                      · rw [if_pos c33] at H
                                        have c33b0 := eq_true c33
                                        have c33b1 : decide (x9_3 ≤ (t247.size : Int)) = true := decide_eq_true c33
                                        clear c33
                                        have H' := Aside0.mk H
                                        clear H
                                        go_wp2
                                        repeat (go_quiet (fail); try go_wp2)
                                        go_meet
                                        case rel => exact ⟨_, (t247.extract 0 (x9_3 : Int).toNat), (by first | rfl | (simp; done) | (simp [*]; done)), H', ⟨by have := HJ3.out; have := HJ12.out; have := HK3.out; have := HJ21.out; first | omega | exact Nat.le_refl _⟩, ⟨by repeat (first | (with_reducible first | exact HB.out | apply below_alloc | apply pw_below_drewN | apply below_drew1) | exact HB.out)⟩⟩
                                      · rw [if_neg c33] at H
                                        exact absurd H (by simp)
                                    · rw [if_neg c32] at H
                                      exact absurd H (by simp)
                                  · rw [if_neg c31] at H
                                    have c31b0 : ((wrap64 ((t247.size : Int) - x9_3)) == 2) = false := beq_eq_false_iff_ne.mpr c31
                                    have c31b1 : ((wrap64 ((t247.size : Int) - x9_3)) != 2) = true := bne_iff_ne.mpr c31
                                    (first | rw [c31b0] | (simp only [i64_w, i32_w]; rw [c31b0]) | skip)
                                    by_cases c34 : (Int.tmod a1 2) = 1
                                    · rw [if_pos c34] at H
                                      have c34b0 : ((Int.tmod a1 2) == 1) = true := beq_iff_eq.mpr c34
                                      have c34b1 : ((Int.tmod a1 2) != 1) = false := bne_eq_false_iff_eq.mpr c34
                                      clear c34
                                      obtain ⟨ji35, hji35⟩ : ∃ j_ : Int, (wrap64 ((e27.size : Int) - 1)) = j_ := ⟨_, rfl⟩
                                      replace H : (if 0 ≤ (ji35) then (if (ji35) < (e27.size : Int) then (if (bt e27 (ji35)) < 57 then (if (ji35) ≤ (e27.size : Int) then (if (e27.extract 0 ((ji35) : Int).toNat).size + (Utf8.encode (((bt e27 (ji35)) + 1) % 256)).size ≤ 9223372036854775807 then (fleuronlaw02_FixBack.j4 kj21 a0 ((e27.extract 0 ((ji35) : Int).toNat) ++ (Utf8.encode (((bt e27 (ji35)) + 1) % 256)))) else (none)) else (none)) else (fleuronlaw02_FixBack.j4 kj21 a0 e27)) else (none)) else (none)) = some true := by first | (rw [hji35] at H; exact H) | (simp only [hji35] at H ⊢; exact H)
                                      have hji35w : (IntKind.i64.wrap ((e27.size : Int) - 1)) = ji35 := (i64_w _).trans hji35
                                      by_cases c36 : 0 ≤ (ji35)
                                      · rw [if_pos c36] at H
                                        have c36b0 : decide (0 ≤ (ji35)) = true := decide_eq_true c36
                                        clear c36
                                        by_cases c37 : (ji35) < (e27.size : Int)
                                        · rw [if_pos c37] at H
                                          have c37b0 : decide ((ji35) < (e27.size : Int)) = true := decide_eq_true c37
                                          clear c37
                                          by_cases c39 : (bt e27 (ji35)) < 57
                                          · rw [if_pos c39] at H
                                            have c39b0 : decide ((bt e27 (ji35)) < 57) = true := decide_eq_true c39
                                            clear c39
                                            have c40b0 := eq_true (of_decide_eq_true (by first | (with_reducible assumption) | assumption) : 0 ≤ (ji35))
                                            by_cases c41 : (ji35) ≤ (e27.size : Int)
                                            · rw [if_pos c41] at H
                                              have c41b0 := eq_true c41
                                              have c41b1 : decide ((ji35) ≤ (e27.size : Int)) = true := decide_eq_true c41
                                              clear c41
                                              by_cases c43 : (e27.extract 0 ((ji35) : Int).toNat).size + (Utf8.encode (((bt e27 (ji35)) + 1) % 256)).size ≤ 9223372036854775807
                                              · rw [if_pos c43] at H
                                                have c43b0 := eq_true c43
                                                have c43b1 : decide ((e27.extract 0 ((ji35) : Int).toNat).size + (Utf8.encode (((bt e27 (ji35)) + 1) % 256)).size ≤ 9223372036854775807) = true := decide_eq_true c43
                                                try have c43b2 : (9223372036854775807 < (e27.extract 0 ((ji35) : Int).toNat).size + (Utf8.encode (((bt e27 (ji35)) + 1) % 256)).size) = False := eq_false (Nat.not_lt.2 c43)
                                                have H' := Aside0.mk H
                                                clear H
                                                have p38 : 0 ≤ ((ji35) : Int) := of_decide_eq_true (by first | (with_reducible assumption) | assumption)
                                                have q38 : (ji35) < (e27.size : Int) := of_decide_eq_true (by first | (with_reducible assumption) | assumption)
                                                have hx38 := bt_at e27 (ji35)
                                                replace p38 := eq_true p38
                                                replace q38 := eq_true q38
                                                have p42 : 0 ≤ ((ji35) : Int) := of_decide_eq_true (by first | (with_reducible assumption) | assumption)
                                                have q42 : (ji35) < (e27.size : Int) := of_decide_eq_true (by first | (with_reducible assumption) | assumption)
                                                have hx42 := bt_at e27 (ji35)
                                                replace p42 := eq_true p42
                                                replace q42 := eq_true q42
                                                go_wp2
                                                repeat (go_quiet (fail); try go_wp2)
                                                go_meet
                                                case rel => exact ⟨_, ((e27.extract 0 ((ji35) : Int).toNat) ++ (Utf8.encode (((bt e27 (ji35)) + 1) % 256))), (by first | rfl | (simp; done) | (simp only [← hji27, ← hji35] <;> (first | rfl | simp)) | (simp [*]; done)), H', ⟨by have := HJ3.out; have := HJ12.out; have := HK3.out; have := HJ21.out; first | omega | exact Nat.le_refl _⟩, ⟨by repeat (first | (with_reducible first | exact HB.out | apply below_alloc | apply pw_below_drewN | apply below_drew1) | exact HB.out)⟩⟩
                                              · rw [if_neg c43] at H
                                                exact absurd H (by simp)
                                            · rw [if_neg c41] at H
                                              exact absurd H (by simp)
                                          · rw [if_neg c39] at H
                                            have c39b0 : decide ((bt e27 (ji35)) < 57) = false := decide_eq_false c39
                                            clear c39
                                            have H' := Aside0.mk H
                                            clear H
                                            have p38 : 0 ≤ ((ji35) : Int) := of_decide_eq_true (by first | (with_reducible assumption) | assumption)
                                            have q38 : (ji35) < (e27.size : Int) := of_decide_eq_true (by first | (with_reducible assumption) | assumption)
                                            have hx38 := bt_at e27 (ji35)
                                            replace p38 := eq_true p38
                                            replace q38 := eq_true q38
                                            go_wp2
                                            repeat (go_quiet (fail); try go_wp2)
                                            go_meet
                                            case rel => exact ⟨_, e27, (by first | rfl | (simp; done) | (simp only [← hji27] <;> (first | rfl | simp)) | (simp [*]; done)), H', ⟨by have := HJ3.out; have := HJ12.out; have := HK3.out; have := HJ21.out; first | omega | exact Nat.le_refl _⟩, ⟨by repeat (first | (with_reducible first | exact HB.out | apply below_alloc | apply pw_below_drewN | apply below_drew1) | exact HB.out)⟩⟩
                                        · rw [if_neg c37] at H
                                          exact absurd H (by simp)
                                      · rw [if_neg c36] at H
                                        exact absurd H (by simp)
                                    · rw [if_neg c34] at H
                                      have c34b0 : ((Int.tmod a1 2) == 1) = false := beq_eq_false_iff_ne.mpr c34
                                      have c34b1 : ((Int.tmod a1 2) != 1) = true := bne_iff_ne.mpr c34
                                      have H' := Aside0.mk H
                                      clear H
                                      go_wp2
                                      repeat (go_quiet (fail); try go_wp2)
                                      go_meet
                                      case rel => exact ⟨_, e27, (by first | rfl | (simp; done) | (simp only [← hji27] <;> (first | rfl | simp)) | (simp [*]; done)), H', ⟨by have := HJ3.out; have := HJ12.out; have := HK3.out; have := HJ21.out; first | omega | exact Nat.le_refl _⟩, ⟨by repeat (first | (with_reducible first | exact HB.out | apply below_alloc | apply pw_below_drewN | apply below_drew1) | exact HB.out)⟩⟩
                                case rest =>
                                  clear HC30
                                  try clear c1
                                  try clear c2
                                  try clear p2
                                  try clear q2
                                  try clear hx2
                                  try clear c3
                                  try clear p3
                                  try clear q3
                                  try clear hx3
                                  try clear c4
                                  try clear p4
                                  try clear q4
                                  try clear hx4
                                  try clear c5
                                  try clear c6
                                  try clear c6b0
                                  try clear p6
                                  try clear c7
                                  try clear c8
                                  try clear c8b0
                                  try clear c8b1
                                  try clear c9
                                  try clear c9b0
                                  try clear c9b1
                                  try clear c15
                                  try clear c15b0
                                  try clear c15b1
                                  try clear c16
                                  try clear c16b0
                                  try clear c16b1
                                  try clear c17
                                  try clear c18
                                  try clear c18b0
                                  try clear c19
                                  try clear c19b0
                                  try clear p20
                                  try clear q20
                                  try clear hx20
                                  try clear c21
                                  try clear c21b0
                                  try clear c21b1
                                  try clear c23
                                  try clear c23b0
                                  try clear c23b1
                                  try clear c23b2
                                  try clear c24
                                  try clear c24b0
                                  try clear c25
                                  try clear c26
                                  try clear c26b0
                                  try clear c28
                                  try clear c28b0
                                  try clear c28b1
                                  try clear c29
                                  try clear c29b0
                                  try clear c29b1
                                  try clear c31
                                  try clear c31b0
                                  try clear c31b1
                                  try clear c32
                                  try clear c32b0
                                  try clear c32b1
                                  try clear c33
                                  try clear c33b0
                                  try clear c33b1
                                  try clear c34
                                  try clear c34b0
                                  try clear c34b1
                                  try clear c36
                                  try clear c36b0
                                  try clear c37
                                  try clear c37b0
                                  try clear p38
                                  try clear q38
                                  try clear hx38
                                  try clear c39
                                  try clear c39b0
                                  try clear c40
                                  try clear c40b0
                                  try clear c41
                                  try clear c41b0
                                  try clear c41b1
                                  try clear p42
                                  try clear q42
                                  try clear hx42
                                  try clear c43
                                  try clear c43b0
                                  try clear c43b1
                                  try clear c43b2
                                  try clear p2
                                  try clear p20
                                  try clear p38
                                  try clear p42
                                  try clear p6
                                  try clear q2
                                  try clear q20
                                  try clear q38
                                  try clear q42
                                  obtain ⟨kq, x11_29, rfl, HA, HJ29, HB⟩ := hcut
                                  cases kq with
                                  | zero => exact absurd HA.out (by simp [fleuronlaw02_FixBack.j4])
                                  | succ kj29 =>
                                    have H := HA.out
                                    clear HA
                                    simp only [fleuronlaw02_FixBack.j4] at H
                                    replace H := Option.bind_eq_some_iff.mp H
                                    obtain ⟨⟨t252, t253⟩, A440, H⟩ := H
                                    replace H : (if t253 = 0 then (if t252 = a0 then (some false) else ((fleuronlaw02_awake.f kj29).bind fun t254 => (some t254))) else ((fleuronlaw02_awake.f kj29).bind fun t255 => (some t255))) = some true := H
                                    have A44 := Aside0.mk A440
                                    clear A440
                                    by_cases c45 : t253 = 0
                                    · rw [if_pos c45] at H
                                      have c45b0 : (t253 == 0) = true := beq_iff_eq.mpr c45
                                      have c45b1 : (t253 != 0) = false := bne_eq_false_iff_eq.mpr c45
                                      clear c45
                                      by_cases c46 : t252 = a0
                                      · rw [if_pos c46] at H
                                        have c46b0 : (t252 == a0) = true := beq_iff_eq.mpr c46
                                        have c46b1 : (t252 != a0) = false := bne_eq_false_iff_eq.mpr c46
                                        clear c46
                                        exact absurd H (by simp)
                                      · rw [if_neg c46] at H
                                        have c46b0 : (t252 == a0) = false := beq_eq_false_iff_ne.mpr c46
                                        have c46b1 : (t252 != a0) = true := bne_iff_ne.mpr c46
                                        replace H := Option.bind_eq_some_iff.mp H
                                        obtain ⟨t254, A470, H⟩ := H
                                        replace H : (some t254) = some true := H
                                        have A47 := Aside0.mk A470
                                        clear A470
                                        have hr_ := Option.some.inj H
                                        clear H
                                        go_wp2_with (first | (go_at_call 12; (with_reducible refine (fix_Parse.calls kj29 x11_29 t252 t253 _ ?side1 A44.out).mono ?_); (case side1 => exact LaidOK.below HT_.out (by repeat (first | (with_reducible first | exact HB.out | apply below_alloc | apply pw_below_drewN | apply below_drew1) | exact HB.out))); rintro e w48 ⟨rfl, hb⟩; have n0_ := Aside0.mk (below_step (by repeat (first | (with_reducible first | exact HB.out | apply below_alloc | apply pw_below_drewN | apply below_drew1) | exact HB.out)) hb); clear HB; have HB := n0_; clear n0_; (try clear hb); (try clear hb2); (try clear hk); (try clear hi)) | (go_at_call 8; (with_reducible refine (fleuronlaw02_awake.callsT kj29   _ ?side1 (Aside0.mk (by have z_ := A47.out; rw [show t254 = true by assumption] at z_; exact z_)).out).mono ?_); (case side1 => exact LaidOK.below HT_.out (by repeat (first | (with_reducible first | exact HB.out | apply below_alloc | apply pw_below_drewN | apply below_drew1) | exact HB.out))); rintro e w49 ⟨rfl, hb⟩; have n0_ := Aside0.mk (below_step (by repeat (first | (with_reducible first | exact HB.out | apply below_alloc | apply pw_below_drewN | apply below_drew1) | exact HB.out)) hb); clear HB; have HB := n0_; clear n0_; (try clear hb); (try clear hb2); (try clear hk); (try clear hi)))
                                        repeat (go_quiet (first | (go_at_call 12; (with_reducible refine (fix_Parse.calls kj29 x11_29 t252 t253 _ ?side1 A44.out).mono ?_); (case side1 => exact LaidOK.below HT_.out (by repeat (first | (with_reducible first | exact HB.out | apply below_alloc | apply pw_below_drewN | apply below_drew1) | exact HB.out))); rintro e w48 ⟨rfl, hb⟩; have n0_ := Aside0.mk (below_step (by repeat (first | (with_reducible first | exact HB.out | apply below_alloc | apply pw_below_drewN | apply below_drew1) | exact HB.out)) hb); clear HB; have HB := n0_; clear n0_; (try clear hb); (try clear hb2); (try clear hk); (try clear hi)) | (go_at_call 8; (with_reducible refine (fleuronlaw02_awake.callsT kj29   _ ?side1 (Aside0.mk (by have z_ := A47.out; rw [show t254 = true by assumption] at z_; exact z_)).out).mono ?_); (case side1 => exact LaidOK.below HT_.out (by repeat (first | (with_reducible first | exact HB.out | apply below_alloc | apply pw_below_drewN | apply below_drew1) | exact HB.out))); rintro e w49 ⟨rfl, hb⟩; have n0_ := Aside0.mk (below_step (by repeat (first | (with_reducible first | exact HB.out | apply below_alloc | apply pw_below_drewN | apply below_drew1) | exact HB.out)) hb); clear HB; have HB := n0_; clear n0_; (try clear hb); (try clear hb2); (try clear hk); (try clear hi))); try go_wp2_with (first | (go_at_call 12; (with_reducible refine (fix_Parse.calls kj29 x11_29 t252 t253 _ ?side1 A44.out).mono ?_); (case side1 => exact LaidOK.below HT_.out (by repeat (first | (with_reducible first | exact HB.out | apply below_alloc | apply pw_below_drewN | apply below_drew1) | exact HB.out))); rintro e w48 ⟨rfl, hb⟩; have n0_ := Aside0.mk (below_step (by repeat (first | (with_reducible first | exact HB.out | apply below_alloc | apply pw_below_drewN | apply below_drew1) | exact HB.out)) hb); clear HB; have HB := n0_; clear n0_; (try clear hb); (try clear hb2); (try clear hk); (try clear hi)) | (go_at_call 8; (with_reducible refine (fleuronlaw02_awake.callsT kj29   _ ?side1 (Aside0.mk (by have z_ := A47.out; rw [show t254 = true by assumption] at z_; exact z_)).out).mono ?_); (case side1 => exact LaidOK.below HT_.out (by repeat (first | (with_reducible first | exact HB.out | apply below_alloc | apply pw_below_drewN | apply below_drew1) | exact HB.out))); rintro e w49 ⟨rfl, hb⟩; have n0_ := Aside0.mk (below_step (by repeat (first | (with_reducible first | exact HB.out | apply below_alloc | apply pw_below_drewN | apply below_drew1) | exact HB.out)) hb); clear HB; have HB := n0_; clear n0_; (try clear hb); (try clear hb2); (try clear hk); (try clear hi))))
                                        go_ret
                                        exact ⟨by first | rfl | (simp [errW_none, errW_some] <;> rfl) | (simp only [← hji27]; first | rfl | (simp [errW_none, errW_some] <;> rfl)) | (simp [*, errW_none, errW_some] <;> rfl), by repeat (first | (with_reducible first | exact HB.out | apply below_alloc | apply pw_below_drewN | apply below_drew1) | exact HB.out)⟩
                                    · rw [if_neg c45] at H
                                      have c45b0 : (t253 == 0) = false := beq_eq_false_iff_ne.mpr c45
                                      have c45b1 : (t253 != 0) = true := bne_iff_ne.mpr c45
                                      replace H := Option.bind_eq_some_iff.mp H
                                      obtain ⟨t255, A500, H⟩ := H
                                      replace H : (some t255) = some true := H
                                      have A50 := Aside0.mk A500
                                      clear A500
                                      have hr_ := Option.some.inj H
                                      clear H
                                      go_wp2_with (first | (go_at_call 12; (with_reducible refine (fix_Parse.calls kj29 x11_29 t252 t253 _ ?side1 A44.out).mono ?_); (case side1 => exact LaidOK.below HT_.out (by repeat (first | (with_reducible first | exact HB.out | apply below_alloc | apply pw_below_drewN | apply below_drew1) | exact HB.out))); rintro e w51 ⟨rfl, hb⟩; have n0_ := Aside0.mk (below_step (by repeat (first | (with_reducible first | exact HB.out | apply below_alloc | apply pw_below_drewN | apply below_drew1) | exact HB.out)) hb); clear HB; have HB := n0_; clear n0_; (try clear hb); (try clear hb2); (try clear hk); (try clear hi)) | (go_at_call 8; (with_reducible refine (fleuronlaw02_awake.callsT kj29   _ ?side1 (Aside0.mk (by have z_ := A50.out; rw [show t255 = true by assumption] at z_; exact z_)).out).mono ?_); (case side1 => exact LaidOK.below HT_.out (by repeat (first | (with_reducible first | exact HB.out | apply below_alloc | apply pw_below_drewN | apply below_drew1) | exact HB.out))); rintro e w52 ⟨rfl, hb⟩; have n0_ := Aside0.mk (below_step (by repeat (first | (with_reducible first | exact HB.out | apply below_alloc | apply pw_below_drewN | apply below_drew1) | exact HB.out)) hb); clear HB; have HB := n0_; clear n0_; (try clear hb); (try clear hb2); (try clear hk); (try clear hi)))
                                      repeat (go_quiet (first | (go_at_call 12; (with_reducible refine (fix_Parse.calls kj29 x11_29 t252 t253 _ ?side1 A44.out).mono ?_); (case side1 => exact LaidOK.below HT_.out (by repeat (first | (with_reducible first | exact HB.out | apply below_alloc | apply pw_below_drewN | apply below_drew1) | exact HB.out))); rintro e w51 ⟨rfl, hb⟩; have n0_ := Aside0.mk (below_step (by repeat (first | (with_reducible first | exact HB.out | apply below_alloc | apply pw_below_drewN | apply below_drew1) | exact HB.out)) hb); clear HB; have HB := n0_; clear n0_; (try clear hb); (try clear hb2); (try clear hk); (try clear hi)) | (go_at_call 8; (with_reducible refine (fleuronlaw02_awake.callsT kj29   _ ?side1 (Aside0.mk (by have z_ := A50.out; rw [show t255 = true by assumption] at z_; exact z_)).out).mono ?_); (case side1 => exact LaidOK.below HT_.out (by repeat (first | (with_reducible first | exact HB.out | apply below_alloc | apply pw_below_drewN | apply below_drew1) | exact HB.out))); rintro e w52 ⟨rfl, hb⟩; have n0_ := Aside0.mk (below_step (by repeat (first | (with_reducible first | exact HB.out | apply below_alloc | apply pw_below_drewN | apply below_drew1) | exact HB.out)) hb); clear HB; have HB := n0_; clear n0_; (try clear hb); (try clear hb2); (try clear hk); (try clear hi))); try go_wp2_with (first | (go_at_call 12; (with_reducible refine (fix_Parse.calls kj29 x11_29 t252 t253 _ ?side1 A44.out).mono ?_); (case side1 => exact LaidOK.below HT_.out (by repeat (first | (with_reducible first | exact HB.out | apply below_alloc | apply pw_below_drewN | apply below_drew1) | exact HB.out))); rintro e w51 ⟨rfl, hb⟩; have n0_ := Aside0.mk (below_step (by repeat (first | (with_reducible first | exact HB.out | apply below_alloc | apply pw_below_drewN | apply below_drew1) | exact HB.out)) hb); clear HB; have HB := n0_; clear n0_; (try clear hb); (try clear hb2); (try clear hk); (try clear hi)) | (go_at_call 8; (with_reducible refine (fleuronlaw02_awake.callsT kj29   _ ?side1 (Aside0.mk (by have z_ := A50.out; rw [show t255 = true by assumption] at z_; exact z_)).out).mono ?_); (case side1 => exact LaidOK.below HT_.out (by repeat (first | (with_reducible first | exact HB.out | apply below_alloc | apply pw_below_drewN | apply below_drew1) | exact HB.out))); rintro e w52 ⟨rfl, hb⟩; have n0_ := Aside0.mk (below_step (by repeat (first | (with_reducible first | exact HB.out | apply below_alloc | apply pw_below_drewN | apply below_drew1) | exact HB.out)) hb); clear HB; have HB := n0_; clear n0_; (try clear hb); (try clear hb2); (try clear hk); (try clear hi))))
                                      go_ret
                                      exact ⟨by first | rfl | (simp [errW_none, errW_some] <;> rfl) | (simp only [← hji27]; first | rfl | (simp [errW_none, errW_some] <;> rfl)) | (simp [*, errW_none, errW_some] <;> rfl), by repeat (first | (with_reducible first | exact HB.out | apply below_alloc | apply pw_below_drewN | apply below_drew1) | exact HB.out)⟩
                              · rw [if_neg c29] at H
                                exact absurd H (by simp)
                            · rw [if_neg c28] at H
                              exact absurd H (by simp)
                          · rw [if_neg c26] at H
                            have c26b0 : decide (0 ≤ x9_3) = false := decide_eq_false c26
                            clear c26
                            replace H := Option.bind_eq_some_iff.mp H
                            obtain ⟨t256, A530, H⟩ := H
                            replace H : (some t256) = some true := H
                            have A53 := Aside0.mk A530
                            clear A530
                            have hr_ := Option.some.inj H
                            clear H
                            go_wp2_with (first | (go_at_call 8; (with_reducible refine (fleuronlaw02_awake.callsT kj21   _ ?side1 (Aside0.mk (by have z_ := A53.out; rw [show t256 = true by assumption] at z_; exact z_)).out).mono ?_); (case side1 => exact LaidOK.below HT_.out (by repeat (first | (with_reducible first | exact HB.out | apply below_alloc | apply pw_below_drewN | apply below_drew1) | exact HB.out))); rintro e w54 ⟨rfl, hb⟩; have n0_ := Aside0.mk (below_step (by repeat (first | (with_reducible first | exact HB.out | apply below_alloc | apply pw_below_drewN | apply below_drew1) | exact HB.out)) hb); clear HB; have HB := n0_; clear n0_; (try clear hb); (try clear hb2); (try clear hk); (try clear hi)))
                            repeat (go_quiet (first | (go_at_call 8; (with_reducible refine (fleuronlaw02_awake.callsT kj21   _ ?side1 (Aside0.mk (by have z_ := A53.out; rw [show t256 = true by assumption] at z_; exact z_)).out).mono ?_); (case side1 => exact LaidOK.below HT_.out (by repeat (first | (with_reducible first | exact HB.out | apply below_alloc | apply pw_below_drewN | apply below_drew1) | exact HB.out))); rintro e w54 ⟨rfl, hb⟩; have n0_ := Aside0.mk (below_step (by repeat (first | (with_reducible first | exact HB.out | apply below_alloc | apply pw_below_drewN | apply below_drew1) | exact HB.out)) hb); clear HB; have HB := n0_; clear n0_; (try clear hb); (try clear hb2); (try clear hk); (try clear hi))); try go_wp2_with (first | (go_at_call 8; (with_reducible refine (fleuronlaw02_awake.callsT kj21   _ ?side1 (Aside0.mk (by have z_ := A53.out; rw [show t256 = true by assumption] at z_; exact z_)).out).mono ?_); (case side1 => exact LaidOK.below HT_.out (by repeat (first | (with_reducible first | exact HB.out | apply below_alloc | apply pw_below_drewN | apply below_drew1) | exact HB.out))); rintro e w54 ⟨rfl, hb⟩; have n0_ := Aside0.mk (below_step (by repeat (first | (with_reducible first | exact HB.out | apply below_alloc | apply pw_below_drewN | apply below_drew1) | exact HB.out)) hb); clear HB; have HB := n0_; clear n0_; (try clear hb); (try clear hb2); (try clear hk); (try clear hi))))
                            go_ret
                            exact ⟨by first | rfl | (simp [errW_none, errW_some] <;> rfl) | (simp [*, errW_none, errW_some] <;> rfl), by repeat (first | (with_reducible first | exact HB.out | apply below_alloc | apply pw_below_drewN | apply below_drew1) | exact HB.out)⟩

/-- THE ONE PURE STATEMENT of fleuronlaw02_FixBack: yours. -/
def fleuronlaw02_FixBack.Pure : Prop := ∀ (a0 : Int) (a1 : Int), (Lit.int .i64 a0).wf = true → (Lit.int .u8 a1).wf = true → ∃ k, fleuronlaw02_FixBack.f k a0 a1 = some true
theorem fleuronlaw02_FixBack.walk (P : fleuronlaw02_FixBack.Pure) (a0 : Int) (a1 : Int) (w : World) (w0 : (Lit.int .i64 a0).wf = true) (w1 : (Lit.int .u8 a1).wf = true) (ht_ : LaidOK w) :
    Calls Tryd.prog 5 #[.int .i64 a0, .int .u8 a1] w fun e w' => e = .returned (.bool true) ∧ Below w.heap.size w w' := by
  obtain ⟨k, h⟩ := P a0 a1 w0 w1
  refine (fleuronlaw02_FixBack.callsT k a0 a1 w ht_ h).mono ?_
  rintro e w' ⟨rfl, hd⟩
  exact ⟨rfl, hd⟩

end Go.Proofs.YtjaifahodfljkaaDoor.Z
