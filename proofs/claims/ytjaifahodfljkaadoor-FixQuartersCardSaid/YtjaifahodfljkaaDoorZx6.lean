/- Laid by program (this session's, over the kit's print): functions of this seat as plain Lean functions, each with its contract. -/
import Derived.Test.YtjaifahodfljkaaDoorZx0
import Derived.Test.YtjaifahodfljkaaDoorZx1
import Derived.Test.YtjaifahodfljkaaDoorZx3
import Derived.Test.YtjaifahodfljkaaDoorZx4
namespace Go.Proofs.YtjaifahodfljkaaDoor.Z
open Go.RowKit Go.Proofs.YtjaifahodfljkaaDoorW.PrintWords Go.Proofs.YtjaifahodfljkaaDoorW.PrintLast Go.Proofs.YtjaifahodfljkaaDoorW.PrintMore
attribute [local go_sem] max2_int min2_int max_two min_two max_three min_three max_four min_four   -- for this text's walks alone
set_option linter.unusedVariables false
set_option linter.unusedSimpArgs false

/-! ### fleuronlaw02_FixHypots: function 4 -/
mutual
def fleuronlaw02_FixHypots.j0 : Nat → Int → Int → Option (Bool)
  | 0, _, _ => none
  | k + 1, x0, x2 => if x2 ≥ (-429496729) then (fleuronlaw02_FixHypots.j1 k x0 x2 (decide (x2 ≤ 429496729))) else (fleuronlaw02_FixHypots.j1 k x0 x2 false)
def fleuronlaw02_FixHypots.j1 : Nat → Int → Int → Bool → Option (Bool)
  | 0, _, _, _ => none
  | k + 1, x0, x2, x49 => if x49 = true then ((fix_Hypot.f k (wrap64 (3 * x2)) (wrap64 (4 * x2))).bind fun bt241 => (if bt241.2 = 0 then (if bt241.1 = (mx (wrap64 (5 * x2)) (wrap64 ((-5) * x2))) then (fleuronlaw02_FixHypots.j2 k x0) else (some false)) else (some false))) else (fleuronlaw02_FixHypots.j2 k x0)
def fleuronlaw02_FixHypots.j2 : Nat → Int → Option (Bool)
  | 0, _ => none
  | k + 1, x0 => (fix_Sqrt.f k x0).bind fun bt243 => (if bt243.2 = 0 then (if (wrap64 ((wrap64 (bt243.1 * bt243.1)) - (wrap64 (x0 * 65536)))) > bt243.1 then (some false) else (if (wrap64 ((wrap64 (bt243.1 * bt243.1)) - (wrap64 (x0 * 65536)))) < (wrap64 (-bt243.1)) then (some false) else ((fleuronlaw02_awake.f k).bind fun t245 => (some t245)))) else ((fleuronlaw02_awake.f k).bind fun t246 => (some t246)))
end
def fleuronlaw02_FixHypots.f (k : Nat) (a0 : Int) (a1 : Int) (a2 : Int) : Option (Bool) := (fix_Hypot.f k a0 a1).bind fun bt239 => (if bt239.2 = 0 then (if bt239.1 < (mx (mx a0 (wrap64 (-a0))) (mx a1 (wrap64 (-a1)))) then (some false) else (if bt239.1 > (wrap64 ((mx a0 (wrap64 (-a0))) + (mx a1 (wrap64 (-a1))))) then (some false) else (fleuronlaw02_FixHypots.j0 k a0 a2))) else (fleuronlaw02_FixHypots.j0 k a0 a2))
theorem fleuronlaw02_FixHypots.mono_l : ∀ k, (∀ y0 y1, LeO (fleuronlaw02_FixHypots.j0 k y0 y1) (fleuronlaw02_FixHypots.j0 (k + 1) y0 y1)) ∧ (∀ y0 y1 y2, LeO (fleuronlaw02_FixHypots.j1 k y0 y1 y2) (fleuronlaw02_FixHypots.j1 (k + 1) y0 y1 y2)) ∧ (∀ y0, LeO (fleuronlaw02_FixHypots.j2 k y0) (fleuronlaw02_FixHypots.j2 (k + 1) y0))
  | 0 => ⟨fun _ _ r h => by simp [fleuronlaw02_FixHypots.j0] at h, fun _ _ _ r h => by simp [fleuronlaw02_FixHypots.j1] at h, fun _ r h => by simp [fleuronlaw02_FixHypots.j2] at h⟩
  | k + 1 => by
    obtain ⟨ih0, ih1, ih2⟩ := fleuronlaw02_FixHypots.mono_l k
    refine ⟨?_, ?_, ?_⟩
    · intro y0 y1
      unfold fleuronlaw02_FixHypots.j0
      repeat' first
      | (with_reducible exact ih0 _ _)
      | (with_reducible exact ih1 _ _ _)
      | (with_reducible exact ih2 _)
      | (with_reducible exact fix_Hypot.mono _ _ _)
      | (with_reducible exact fix_Sqrt.mono _ _)
      | (with_reducible exact fleuronlaw02_awake.mono _)
      | (with_reducible exact LeO.refl _)
      | (with_reducible exact LeO.none _)
      | (with_reducible refine LeO.ite ?_ ?_)
      | (with_reducible refine LeO.bind ?_ (fun _ => ?_))
      | exact ih0 _ _
      | exact ih1 _ _ _
      | exact ih2 _
      | exact fix_Hypot.mono _ _ _
      | exact fix_Sqrt.mono _ _
      | exact fleuronlaw02_awake.mono _
      | exact LeO.none _
      | refine LeO.ite ?_ ?_
      | refine LeO.bind ?_ (fun _ => ?_)
    · intro y0 y1 y2
      unfold fleuronlaw02_FixHypots.j1
      repeat' first
      | (with_reducible exact ih0 _ _)
      | (with_reducible exact ih1 _ _ _)
      | (with_reducible exact ih2 _)
      | (with_reducible exact fix_Hypot.mono _ _ _)
      | (with_reducible exact fix_Sqrt.mono _ _)
      | (with_reducible exact fleuronlaw02_awake.mono _)
      | (with_reducible exact LeO.refl _)
      | (with_reducible exact LeO.none _)
      | (with_reducible refine LeO.ite ?_ ?_)
      | (with_reducible refine LeO.bind ?_ (fun _ => ?_))
      | exact ih0 _ _
      | exact ih1 _ _ _
      | exact ih2 _
      | exact fix_Hypot.mono _ _ _
      | exact fix_Sqrt.mono _ _
      | exact fleuronlaw02_awake.mono _
      | exact LeO.none _
      | refine LeO.ite ?_ ?_
      | refine LeO.bind ?_ (fun _ => ?_)
    · intro y0
      unfold fleuronlaw02_FixHypots.j2
      repeat' first
      | (with_reducible exact ih0 _ _)
      | (with_reducible exact ih1 _ _ _)
      | (with_reducible exact ih2 _)
      | (with_reducible exact fix_Hypot.mono _ _ _)
      | (with_reducible exact fix_Sqrt.mono _ _)
      | (with_reducible exact fleuronlaw02_awake.mono _)
      | (with_reducible exact LeO.refl _)
      | (with_reducible exact LeO.none _)
      | (with_reducible refine LeO.ite ?_ ?_)
      | (with_reducible refine LeO.bind ?_ (fun _ => ?_))
      | exact ih0 _ _
      | exact ih1 _ _ _
      | exact ih2 _
      | exact fix_Hypot.mono _ _ _
      | exact fix_Sqrt.mono _ _
      | exact fleuronlaw02_awake.mono _
      | exact LeO.none _
      | refine LeO.ite ?_ ?_
      | refine LeO.bind ?_ (fun _ => ?_)
theorem fleuronlaw02_FixHypots.mono : ∀ a0 a1 a2 k, LeO (fleuronlaw02_FixHypots.f k a0 a1 a2) (fleuronlaw02_FixHypots.f (k + 1) a0 a1 a2) := by
  intro a0 a1 a2 k
  obtain ⟨ih0, ih1, ih2⟩ := fleuronlaw02_FixHypots.mono_l k
  unfold fleuronlaw02_FixHypots.f
  repeat' first
      | (with_reducible exact ih0 _ _)
      | (with_reducible exact ih1 _ _ _)
      | (with_reducible exact ih2 _)
      | (with_reducible exact fix_Hypot.mono _ _ _)
      | (with_reducible exact fix_Sqrt.mono _ _)
      | (with_reducible exact fleuronlaw02_awake.mono _)
      | (with_reducible exact LeO.refl _)
      | (with_reducible exact LeO.none _)
      | (with_reducible refine LeO.ite ?_ ?_)
      | (with_reducible refine LeO.bind ?_ (fun _ => ?_))
      | exact ih0 _ _
      | exact ih1 _ _ _
      | exact ih2 _
      | exact fix_Hypot.mono _ _ _
      | exact fix_Sqrt.mono _ _
      | exact fleuronlaw02_awake.mono _
      | exact LeO.none _
      | refine LeO.ite ?_ ?_
      | refine LeO.bind ?_ (fun _ => ?_)
set_option maxHeartbeats 8000000 in
set_option maxRecDepth 100000 in
theorem fleuronlaw02_FixHypots.callsT (k : Nat) (a0 : Int) (a1 : Int) (a2 : Int) (w : World) (ht_ : LaidOK w) (h : fleuronlaw02_FixHypots.f k a0 a1 a2 = some true) :
    Calls Tryd.prog 4 #[.int .i64 a0, .int .i64 a1, .int .i64 a2] w fun e w' => e = .returned (.bool true) ∧ Below w.heap.size w w' := by
  have HB := Aside0.mk (Below.refl w.heap.size w)
  have HT_ := Aside0.mk ht_
  clear ht_
  have H : ((fix_Hypot.f k a0 a1).bind fun bt239 => (if bt239.2 = 0 then (if bt239.1 < (mx (mx a0 (wrap64 (-a0))) (mx a1 (wrap64 (-a1)))) then (some false) else (if bt239.1 > (wrap64 ((mx a0 (wrap64 (-a0))) + (mx a1 (wrap64 (-a1))))) then (some false) else (fleuronlaw02_FixHypots.j0 k a0 a2))) else (fleuronlaw02_FixHypots.j0 k a0 a2))) = some true := h
  clear h
  replace H := Option.bind_eq_some_iff.mp H
  obtain ⟨⟨t239, t240⟩, A40, H⟩ := H
  replace H : (if t240 = 0 then (if t239 < (mx (mx a0 (wrap64 (-a0))) (mx a1 (wrap64 (-a1)))) then (some false) else (if t239 > (wrap64 ((mx a0 (wrap64 (-a0))) + (mx a1 (wrap64 (-a1))))) then (some false) else (fleuronlaw02_FixHypots.j0 k a0 a2))) else (fleuronlaw02_FixHypots.j0 k a0 a2)) = some true := H
  have A4 := Aside0.mk A40
  clear A40
  have HC5 := Aside0.mk H
  clear H
  go_enter Tryd.func4, Tryd.ntmps4
  go_upto_if 23 with (first | ((with_reducible refine gate_callee (f := 9) rfl ?_); refine goesL_ (some 19) rfl rfl Tryd.func9 (by kernel_rfl) rfl #[.int .i64 a0, .int .i64 a1] rfl (by (try simp only [List.map_toArray, List.map_cons, List.map_nil]); first | done | rfl | (simp only [List.length_drop, List.length_take]; rfl)) ?_; (with_reducible refine (fix_Hypot.calls k a0 a1 t239 t240 _ A4.out).mono ?_); rintro e w6 ⟨rfl, hb⟩; refine ⟨_, rfl, ?_⟩; have n0_ := Aside0.mk (below_step (by repeat (first | (with_reducible first | exact HB.out | apply below_alloc | apply pw_below_drewN | apply below_drew1) | exact HB.out)) hb); clear HB; have HB := n0_; clear n0_; (try clear hb); (try clear hb2); (try clear hk); (try clear hi)))
  (try simp only [Act.put, List.setIfInBounds_toArray, List.set_cons_zero, List.set_cons_succ])
  go_cut [] (fun wc => ∃ (kq : Nat), Aside0 (fleuronlaw02_FixHypots.j0 kq a0 a2 = some true) ∧ Aside0 (kq ≤ k) ∧ Aside0 (Below w.heap.size w wc))
  case first =>
    have H := HC5.out
    clear HC5
    by_cases c7 : t240 = 0
    · rw [if_pos c7] at H
      have c7b0 : (t240 == 0) = true := beq_iff_eq.mpr c7
      have c7b1 : (t240 != 0) = false := bne_eq_false_iff_eq.mpr c7
      clear c7
      (first | rw [c7b0] | (simp only [i64_w, i32_w]; rw [c7b0]) | skip)
      obtain ⟨ji8, hji8⟩ : ∃ j_ : Int, (mx a0 (wrap64 (-a0))) = j_ := ⟨_, rfl⟩
      replace H : (if t239 < (mx (ji8) (mx a1 (wrap64 (-a1)))) then (some false) else (if t239 > (wrap64 ((ji8) + (mx a1 (wrap64 (-a1))))) then (some false) else (fleuronlaw02_FixHypots.j0 k a0 a2))) = some true := by first | (rw [hji8] at H; exact H) | (simp only [hji8] at H ⊢; exact H)
      have hji8_ : (if a0 < (wrap64 (-a0)) then (wrap64 (-a0)) else a0) = ji8 := hji8
      obtain ⟨ji9, hji9⟩ : ∃ j_ : Int, (mx a1 (wrap64 (-a1))) = j_ := ⟨_, rfl⟩
      replace H : (if t239 < (mx (ji8) (ji9)) then (some false) else (if t239 > (wrap64 ((ji8) + (ji9))) then (some false) else (fleuronlaw02_FixHypots.j0 k a0 a2))) = some true := by first | (rw [hji9] at H; exact H) | (simp only [hji9] at H ⊢; exact H)
      have hji9_ : (if a1 < (wrap64 (-a1)) then (wrap64 (-a1)) else a1) = ji9 := hji9
      obtain ⟨ji10, hji10⟩ : ∃ j_ : Int, (mx (ji8) (ji9)) = j_ := ⟨_, rfl⟩
      replace H : (if t239 < (ji10) then (some false) else (if t239 > (wrap64 ((ji8) + (ji9))) then (some false) else (fleuronlaw02_FixHypots.j0 k a0 a2))) = some true := by first | (rw [hji10] at H; exact H) | (simp only [hji10] at H ⊢; exact H)
      have hji10_ : (if (ji8) < (ji9) then (ji9) else (ji8)) = ji10 := hji10
      by_cases c11 : t239 < (ji10)
      · rw [if_pos c11] at H
        have c11b0 : decide (t239 < (ji10)) = true := decide_eq_true c11
        clear c11
        exact absurd H (by simp)
      · rw [if_neg c11] at H
        have c11b0 : decide (t239 < (ji10)) = false := decide_eq_false c11
        clear c11
        by_cases c12 : t239 > (wrap64 ((ji8) + (ji9)))
        · rw [if_pos c12] at H
          have c12b0 : decide ((wrap64 ((ji8) + (ji9))) < t239) = true := decide_eq_true c12
          clear c12
          exact absurd H (by simp)
        · rw [if_neg c12] at H
          have c12b0 : decide ((wrap64 ((ji8) + (ji9))) < t239) = false := decide_eq_false c12
          clear c12
          have H' := Aside0.mk H
          clear H
          go_wp2
          go_meet
          case rel => exact ⟨_, H', ⟨by first | omega | exact Nat.le_refl _⟩, ⟨by repeat (first | (with_reducible first | exact HB.out | apply below_alloc | apply pw_below_drewN | apply below_drew1) | exact HB.out)⟩⟩
    · rw [if_neg c7] at H
      have c7b0 : (t240 == 0) = false := beq_eq_false_iff_ne.mpr c7
      have c7b1 : (t240 != 0) = true := bne_iff_ne.mpr c7
      (first | rw [c7b0] | (simp only [i64_w, i32_w]; rw [c7b0]) | skip)
      have H' := Aside0.mk H
      clear H
      go_wp2
      go_meet
      case rel => exact ⟨_, H', ⟨by first | omega | exact Nat.le_refl _⟩, ⟨by repeat (first | (with_reducible first | exact HB.out | apply below_alloc | apply pw_below_drewN | apply below_drew1) | exact HB.out)⟩⟩
  case rest =>
    clear HC5
    try clear c1
    try clear p2
    try clear c4
    try clear p6
    try clear c7
    try clear c7b0
    try clear c7b1
    try clear c9
    try clear c11
    try clear c11b0
    try clear c12
    try clear c12b0
    obtain ⟨kq, HA, HJ4, HB⟩ := hcut
    cases kq with
    | zero => exact absurd HA.out (by simp [fleuronlaw02_FixHypots.j0])
    | succ kj4 =>
      have H := HA.out
      clear HA
      simp only [fleuronlaw02_FixHypots.j0] at H
      have HC13 := Aside0.mk H
      clear H
      go_upto_region 6 with (fail)
      go_cut [49] (fun v49 wc => ∃ (kq : Nat) (x49_12 : Bool), v49 = .bool x49_12 ∧ Aside0 (fleuronlaw02_FixHypots.j1 kq a0 a2 x49_12 = some true) ∧ Aside0 (kq ≤ kj4) ∧ Aside0 (Below w.heap.size w wc))
      case first =>
        have H := HC13.out
        clear HC13
        by_cases c14 : a2 ≥ (-429496729)
        · rw [if_pos c14] at H
          have c14b0 : decide ((-429496729) ≤ a2) = true := decide_eq_true c14
          clear c14
          (first | rw [c14b0] | (simp only [i64_w, i32_w]; rw [c14b0]) | skip)
          have H' := Aside0.mk H
          clear H
          go_wp2
          go_meet
          case rel => exact ⟨_, (decide (a2 ≤ 429496729)), (by first | rfl | (simp; done) | (simp [*]; done)), H', ⟨by have := HJ4.out; first | omega | exact Nat.le_refl _⟩, ⟨by repeat (first | (with_reducible first | exact HB.out | apply below_alloc | apply pw_below_drewN | apply below_drew1) | exact HB.out)⟩⟩
        · rw [if_neg c14] at H
          have c14b0 : decide ((-429496729) ≤ a2) = false := decide_eq_false c14
          clear c14
          (first | rw [c14b0] | (simp only [i64_w, i32_w]; rw [c14b0]) | skip)
          have H' := Aside0.mk H
          clear H
          go_wp2
          go_meet
          case rel => exact ⟨_, (false), (by first | rfl | (simp; done) | (simp [*]; done)), H', ⟨by have := HJ4.out; first | omega | exact Nat.le_refl _⟩, ⟨by repeat (first | (with_reducible first | exact HB.out | apply below_alloc | apply pw_below_drewN | apply below_drew1) | exact HB.out)⟩⟩
      case rest =>
        clear HC13
        try clear c1
        try clear p2
        try clear c4
        try clear p6
        try clear c7
        try clear c7b0
        try clear c7b1
        try clear c9
        try clear c11
        try clear c11b0
        try clear c12
        try clear c12b0
        try clear c14
        try clear c14b0
        try clear p2
        try clear p6
        obtain ⟨kq, x49_12, rfl, HA, HJ12, HB⟩ := hcut
        cases kq with
        | zero => exact absurd HA.out (by simp [fleuronlaw02_FixHypots.j1])
        | succ kj12 =>
          have H := HA.out
          clear HA
          simp only [fleuronlaw02_FixHypots.j1] at H
          have HC15 := Aside0.mk H
          clear H
          go_upto_if 49 with (fail)
          go_cut [] (fun wc => ∃ (kq : Nat), Aside0 (fleuronlaw02_FixHypots.j2 kq a0 = some true) ∧ Aside0 (kq ≤ kj12) ∧ Aside0 (Below w.heap.size w wc))
          case first =>
            have H := HC15.out
            clear HC15
            by_cases c16 : x49_12 = true
            · subst c16
              have H1 : ((fix_Hypot.f kj12 (wrap64 (3 * a2)) (wrap64 (4 * a2))).bind fun bt241 => (if bt241.2 = 0 then (if bt241.1 = (mx (wrap64 (5 * a2)) (wrap64 ((-5) * a2))) then (fleuronlaw02_FixHypots.j2 kj12 a0) else (some false)) else (some false))) = some true := by rw [if_pos rfl] at H; exact H
              clear H
              have H := H1
              clear H1
              replace H := Option.bind_eq_some_iff.mp H
              obtain ⟨⟨t241, t242⟩, A170, H⟩ := H
              replace H : (if t242 = 0 then (if t241 = (mx (wrap64 (5 * a2)) (wrap64 ((-5) * a2))) then (fleuronlaw02_FixHypots.j2 kj12 a0) else (some false)) else (some false)) = some true := H
              have A17 := Aside0.mk A170
              clear A170
              by_cases c18 : t242 = 0
              · rw [if_pos c18] at H
                have c18b0 : (t242 == 0) = true := beq_iff_eq.mpr c18
                have c18b1 : (t242 != 0) = false := bne_eq_false_iff_eq.mpr c18
                clear c18
                (first | rw [c18b0] | (simp only [i64_w, i32_w]; rw [c18b0]) | skip)
                obtain ⟨ji19, hji19⟩ : ∃ j_ : Int, (mx (wrap64 (5 * a2)) (wrap64 ((-5) * a2))) = j_ := ⟨_, rfl⟩
                replace H : (if t241 = (ji19) then (fleuronlaw02_FixHypots.j2 kj12 a0) else (some false)) = some true := by first | (rw [hji19] at H; exact H) | (simp only [hji19] at H ⊢; exact H)
                (try rw [hji19] at A17)
                have hji19_ : (if (wrap64 (5 * a2)) < (wrap64 ((-5) * a2)) then (wrap64 ((-5) * a2)) else (wrap64 (5 * a2))) = ji19 := hji19
                by_cases c20 : t241 = (ji19)
                · rw [if_pos c20] at H
                  have c20b0 : (t241 == (ji19)) = true := beq_iff_eq.mpr c20
                  have c20b1 : (t241 != (ji19)) = false := bne_eq_false_iff_eq.mpr c20
                  clear c20
                  have H' := Aside0.mk H
                  clear H
                  go_wp2_with (first | ((with_reducible refine gate_callee (f := 9) rfl ?_); refine goesL_ (some 55) rfl rfl Tryd.func9 (by kernel_rfl) rfl #[.int .i64 (wrap64 (3 * a2)), .int .i64 (wrap64 (4 * a2))] rfl (by (try simp only [List.map_toArray, List.map_cons, List.map_nil]); first | done | rfl | (simp only [List.length_drop, List.length_take]; rfl)) ?_; (with_reducible refine (fix_Hypot.calls kj12 (wrap64 (3 * a2)) (wrap64 (4 * a2)) t241 t242 _ A17.out).mono ?_); rintro e w21 ⟨rfl, hb⟩; refine ⟨_, rfl, ?_⟩; have n0_ := Aside0.mk (below_step (by repeat (first | (with_reducible first | exact HB.out | apply below_alloc | apply pw_below_drewN | apply below_drew1) | exact HB.out)) hb); clear HB; have HB := n0_; clear n0_; (try clear hb); (try clear hb2); (try clear hk); (try clear hi)))
                  go_meet
                  case rel => exact ⟨_, H', ⟨by have := HJ4.out; have := HJ12.out; first | omega | exact Nat.le_refl _⟩, ⟨by repeat (first | (with_reducible first | exact HB.out | apply below_alloc | apply pw_below_drewN | apply below_drew1) | exact HB.out)⟩⟩
                · rw [if_neg c20] at H
                  have c20b0 : (t241 == (ji19)) = false := beq_eq_false_iff_ne.mpr c20
                  have c20b1 : (t241 != (ji19)) = true := bne_iff_ne.mpr c20
                  exact absurd H (by simp)
              · rw [if_neg c18] at H
                have c18b0 : (t242 == 0) = false := beq_eq_false_iff_ne.mpr c18
                have c18b1 : (t242 != 0) = true := bne_iff_ne.mpr c18
                (first | rw [c18b0] | (simp only [i64_w, i32_w]; rw [c18b0]) | skip)
                exact absurd H (by simp)
            · replace c16 := Bool.eq_false_iff.mpr c16
              subst c16
              have H1 : (fleuronlaw02_FixHypots.j2 kj12 a0) = some true := by rw [if_neg (show ¬ (false = true) by decide)] at H; exact H
              clear H
              have H := H1
              clear H1
              have H' := Aside0.mk H
              clear H
              go_wp2
              go_meet
              case rel => exact ⟨_, H', ⟨by have := HJ4.out; have := HJ12.out; first | omega | exact Nat.le_refl _⟩, ⟨by repeat (first | (with_reducible first | exact HB.out | apply below_alloc | apply pw_below_drewN | apply below_drew1) | exact HB.out)⟩⟩
          case rest =>
            clear HC15
            try clear c1
            try clear c2
            try clear p2
            try clear c4
            try clear p6
            try clear c7
            try clear c7b0
            try clear c7b1
            try clear c9
            try clear c11
            try clear c11b0
            try clear c12
            try clear c12b0
            try clear c14
            try clear c14b0
            try clear c16
            try clear c18
            try clear c18b0
            try clear c18b1
            try clear c20
            try clear c20b0
            try clear c20b1
            try clear p2
            try clear p6
            obtain ⟨kq, HA, HJ14, HB⟩ := hcut
            cases kq with
            | zero => exact absurd HA.out (by simp [fleuronlaw02_FixHypots.j2])
            | succ kj14 =>
              have H := HA.out
              clear HA
              simp only [fleuronlaw02_FixHypots.j2] at H
              replace H := Option.bind_eq_some_iff.mp H
              obtain ⟨⟨t243, t244⟩, A220, H⟩ := H
              replace H : (if t244 = 0 then (if (wrap64 ((wrap64 (t243 * t243)) - (wrap64 (a0 * 65536)))) > t243 then (some false) else (if (wrap64 ((wrap64 (t243 * t243)) - (wrap64 (a0 * 65536)))) < (wrap64 (-t243)) then (some false) else ((fleuronlaw02_awake.f kj14).bind fun t245 => (some t245)))) else ((fleuronlaw02_awake.f kj14).bind fun t246 => (some t246))) = some true := H
              have A22 := Aside0.mk A220
              clear A220
              by_cases c23 : t244 = 0
              · rw [if_pos c23] at H
                have c23b0 : (t244 == 0) = true := beq_iff_eq.mpr c23
                have c23b1 : (t244 != 0) = false := bne_eq_false_iff_eq.mpr c23
                clear c23
                by_cases c24 : (wrap64 ((wrap64 (t243 * t243)) - (wrap64 (a0 * 65536)))) > t243
                · rw [if_pos c24] at H
                  have c24b0 : decide (t243 < (wrap64 ((wrap64 (t243 * t243)) - (wrap64 (a0 * 65536))))) = true := decide_eq_true c24
                  clear c24
                  exact absurd H (by simp)
                · rw [if_neg c24] at H
                  have c24b0 : decide (t243 < (wrap64 ((wrap64 (t243 * t243)) - (wrap64 (a0 * 65536))))) = false := decide_eq_false c24
                  clear c24
                  by_cases c25 : (wrap64 ((wrap64 (t243 * t243)) - (wrap64 (a0 * 65536)))) < (wrap64 (-t243))
                  · rw [if_pos c25] at H
                    have c25b0 : decide ((wrap64 ((wrap64 (t243 * t243)) - (wrap64 (a0 * 65536)))) < (wrap64 (-t243))) = true := decide_eq_true c25
                    clear c25
                    exact absurd H (by simp)
                  · rw [if_neg c25] at H
                    have c25b0 : decide ((wrap64 ((wrap64 (t243 * t243)) - (wrap64 (a0 * 65536)))) < (wrap64 (-t243))) = false := decide_eq_false c25
                    clear c25
                    replace H := Option.bind_eq_some_iff.mp H
                    obtain ⟨t245, A260, H⟩ := H
                    replace H : (some t245) = some true := H
                    have A26 := Aside0.mk A260
                    clear A260
                    have hr_ := Option.some.inj H
                    clear H
                    go_wp2_with (first | ((with_reducible refine gate_callee (f := 10) rfl ?_); refine goesL_ (some 71) rfl rfl Tryd.func10 (by kernel_rfl) rfl #[.int .i64 a0] rfl (by (try simp only [List.map_toArray, List.map_cons, List.map_nil]); first | done | rfl | (simp only [List.length_drop, List.length_take]; rfl)) ?_; (with_reducible refine (fix_Sqrt.calls kj14 a0 t243 t244 _ A22.out).mono ?_); rintro e w27 ⟨rfl, hb⟩; refine ⟨_, rfl, ?_⟩; have n0_ := Aside0.mk (below_step (by repeat (first | (with_reducible first | exact HB.out | apply below_alloc | apply pw_below_drewN | apply below_drew1) | exact HB.out)) hb); clear HB; have HB := n0_; clear n0_; (try clear hb); (try clear hb2); (try clear hk); (try clear hi)) | ((with_reducible refine gate_callee (f := 8) rfl ?_); refine goesL_ (some 91) rfl rfl Tryd.func8 (by kernel_rfl) rfl #[] rfl (by (try simp only [List.map_toArray, List.map_cons, List.map_nil]); first | done | rfl | (simp only [List.length_drop, List.length_take]; rfl)) ?_; (with_reducible refine (fleuronlaw02_awake.callsT kj14   _ ?side1 (Aside0.mk (by have z_ := A26.out; rw [show t245 = true by assumption] at z_; exact z_)).out).mono ?_); (case side1 => exact LaidOK.below HT_.out (by repeat (first | (with_reducible first | exact HB.out | apply below_alloc | apply pw_below_drewN | apply below_drew1) | exact HB.out))); rintro e w28 ⟨rfl, hb⟩; refine ⟨_, rfl, ?_⟩; have n0_ := Aside0.mk (below_step (by repeat (first | (with_reducible first | exact HB.out | apply below_alloc | apply pw_below_drewN | apply below_drew1) | exact HB.out)) hb); clear HB; have HB := n0_; clear n0_; (try clear hb); (try clear hb2); (try clear hk); (try clear hi)))
                    go_ret
                    exact ⟨by first | rfl | (simp [errW_none, errW_some] <;> rfl) | (simp [*, errW_none, errW_some] <;> rfl), by repeat (first | (with_reducible first | exact HB.out | apply below_alloc | apply pw_below_drewN | apply below_drew1) | exact HB.out)⟩
              · rw [if_neg c23] at H
                have c23b0 : (t244 == 0) = false := beq_eq_false_iff_ne.mpr c23
                have c23b1 : (t244 != 0) = true := bne_iff_ne.mpr c23
                replace H := Option.bind_eq_some_iff.mp H
                obtain ⟨t246, A290, H⟩ := H
                replace H : (some t246) = some true := H
                have A29 := Aside0.mk A290
                clear A290
                have hr_ := Option.some.inj H
                clear H
                go_wp2_with (first | ((with_reducible refine gate_callee (f := 10) rfl ?_); refine goesL_ (some 71) rfl rfl Tryd.func10 (by kernel_rfl) rfl #[.int .i64 a0] rfl (by (try simp only [List.map_toArray, List.map_cons, List.map_nil]); first | done | rfl | (simp only [List.length_drop, List.length_take]; rfl)) ?_; (with_reducible refine (fix_Sqrt.calls kj14 a0 t243 t244 _ A22.out).mono ?_); rintro e w30 ⟨rfl, hb⟩; refine ⟨_, rfl, ?_⟩; have n0_ := Aside0.mk (below_step (by repeat (first | (with_reducible first | exact HB.out | apply below_alloc | apply pw_below_drewN | apply below_drew1) | exact HB.out)) hb); clear HB; have HB := n0_; clear n0_; (try clear hb); (try clear hb2); (try clear hk); (try clear hi)) | ((with_reducible refine gate_callee (f := 8) rfl ?_); refine goesL_ (some 91) rfl rfl Tryd.func8 (by kernel_rfl) rfl #[] rfl (by (try simp only [List.map_toArray, List.map_cons, List.map_nil]); first | done | rfl | (simp only [List.length_drop, List.length_take]; rfl)) ?_; (with_reducible refine (fleuronlaw02_awake.callsT kj14   _ ?side1 (Aside0.mk (by have z_ := A29.out; rw [show t246 = true by assumption] at z_; exact z_)).out).mono ?_); (case side1 => exact LaidOK.below HT_.out (by repeat (first | (with_reducible first | exact HB.out | apply below_alloc | apply pw_below_drewN | apply below_drew1) | exact HB.out))); rintro e w31 ⟨rfl, hb⟩; refine ⟨_, rfl, ?_⟩; have n0_ := Aside0.mk (below_step (by repeat (first | (with_reducible first | exact HB.out | apply below_alloc | apply pw_below_drewN | apply below_drew1) | exact HB.out)) hb); clear HB; have HB := n0_; clear n0_; (try clear hb); (try clear hb2); (try clear hk); (try clear hi)))
                go_ret
                exact ⟨by first | rfl | (simp [errW_none, errW_some] <;> rfl) | (simp [*, errW_none, errW_some] <;> rfl), by repeat (first | (with_reducible first | exact HB.out | apply below_alloc | apply pw_below_drewN | apply below_drew1) | exact HB.out)⟩

/-- THE ONE PURE STATEMENT of fleuronlaw02_FixHypots: yours. -/
def fleuronlaw02_FixHypots.Pure : Prop := ∀ (a0 : Int) (a1 : Int) (a2 : Int), (Lit.int .i64 a0).wf = true → (Lit.int .i64 a1).wf = true → (Lit.int .i64 a2).wf = true → ∃ k, fleuronlaw02_FixHypots.f k a0 a1 a2 = some true
theorem fleuronlaw02_FixHypots.walk (P : fleuronlaw02_FixHypots.Pure) (a0 : Int) (a1 : Int) (a2 : Int) (w : World) (w0 : (Lit.int .i64 a0).wf = true) (w1 : (Lit.int .i64 a1).wf = true) (w2 : (Lit.int .i64 a2).wf = true) (ht_ : LaidOK w) :
    Calls Tryd.prog 4 #[.int .i64 a0, .int .i64 a1, .int .i64 a2] w fun e w' => e = .returned (.bool true) ∧ Below w.heap.size w w' := by
  obtain ⟨k, h⟩ := P a0 a1 a2 w0 w1 w2
  refine (fleuronlaw02_FixHypots.callsT k a0 a1 a2 w ht_ h).mono ?_
  rintro e w' ⟨rfl, hd⟩
  exact ⟨rfl, hd⟩

-- NOT PRINTED: function 5 (fleuronlaw02_FixBack)

/-! ### fleuronlaw02_FixTurned: function 6 -/
mutual
def fleuronlaw02_FixTurned.j0 : Nat → Int → Int → Int → Int → Int → Int → Bool → Option (Bool)
  | 0, _, _, _, _, _, _, _ => none
  | k + 1, x0, x1, x7, x8, x9, x10, x38 => if x38 = true then (if x8 = 0 then (if x9 = 0 then (if x10 = 2 then ((fleuronlaw02_awake.f k).bind fun t255 => (some t255)) else (some false)) else (some false)) else (some false)) else (fleuronlaw02_FixTurned.l0 k x0 x1 x7 x8 x9 x10 0)
def fleuronlaw02_FixTurned.l0 : Nat → Int → Int → Int → Int → Int → Int → Int → Option (Bool)
  | 0, _, _, _, _, _, _, _ => none
  | k + 1, x0, x1, x7, x8, x9, x10, x11 => if x11 < (Int.tmod (wrap64 ((Int.tmod x7 4) + 4)) 4) then (fleuronlaw02_FixTurned.l0 k (wrap64 (-x1)) x0 x7 x8 x9 x10 (wrap64 (x11 + 1))) else (if x10 = 0 then (if x8 = x0 then (if x9 = x1 then ((fleuronlaw02_awake.f k).bind fun t256 => (some t256)) else (some false)) else (some false)) else (some false))
end
def fleuronlaw02_FixTurned.f (k : Nat) (a0 : Int) (a1 : Int) (a2 : Int) : Option (Bool) := (fix_Turn.f k a0 a1 (wrap64 ((Int.tmod (wrap64 (a2)) 10000) * 94371840))).bind fun bt252 => (if a0 < (-2147483647) then (fleuronlaw02_FixTurned.j0 k a0 a1 (Int.tmod (wrap64 (a2)) 10000) bt252.1 bt252.2.1 bt252.2.2 true) else (if a0 > 2147483647 then (fleuronlaw02_FixTurned.j0 k a0 a1 (Int.tmod (wrap64 (a2)) 10000) bt252.1 bt252.2.1 bt252.2.2 true) else (if a1 < (-2147483647) then (fleuronlaw02_FixTurned.j0 k a0 a1 (Int.tmod (wrap64 (a2)) 10000) bt252.1 bt252.2.1 bt252.2.2 true) else (fleuronlaw02_FixTurned.j0 k a0 a1 (Int.tmod (wrap64 (a2)) 10000) bt252.1 bt252.2.1 bt252.2.2 (decide (a1 > 2147483647))))))
theorem fleuronlaw02_FixTurned.mono_l : ∀ k, (∀ y0 y1 y2 y3 y4 y5 y6, LeO (fleuronlaw02_FixTurned.j0 k y0 y1 y2 y3 y4 y5 y6) (fleuronlaw02_FixTurned.j0 (k + 1) y0 y1 y2 y3 y4 y5 y6)) ∧ (∀ y0 y1 y2 y3 y4 y5 y6, LeO (fleuronlaw02_FixTurned.l0 k y0 y1 y2 y3 y4 y5 y6) (fleuronlaw02_FixTurned.l0 (k + 1) y0 y1 y2 y3 y4 y5 y6))
  | 0 => ⟨fun _ _ _ _ _ _ _ r h => by simp [fleuronlaw02_FixTurned.j0] at h, fun _ _ _ _ _ _ _ r h => by simp [fleuronlaw02_FixTurned.l0] at h⟩
  | k + 1 => by
    obtain ⟨ih0, ih1⟩ := fleuronlaw02_FixTurned.mono_l k
    refine ⟨?_, ?_⟩
    · intro y0 y1 y2 y3 y4 y5 y6
      unfold fleuronlaw02_FixTurned.j0
      repeat' first
      | (with_reducible exact ih0 _ _ _ _ _ _ _)
      | (with_reducible exact ih1 _ _ _ _ _ _ _)
      | (with_reducible exact fix_Turn.mono _ _ _ _)
      | (with_reducible exact fleuronlaw02_awake.mono _)
      | (with_reducible exact LeO.refl _)
      | (with_reducible exact LeO.none _)
      | (with_reducible refine LeO.ite ?_ ?_)
      | (with_reducible refine LeO.bind ?_ (fun _ => ?_))
      | exact ih0 _ _ _ _ _ _ _
      | exact ih1 _ _ _ _ _ _ _
      | exact fix_Turn.mono _ _ _ _
      | exact fleuronlaw02_awake.mono _
      | exact LeO.none _
      | refine LeO.ite ?_ ?_
      | refine LeO.bind ?_ (fun _ => ?_)
    · intro y0 y1 y2 y3 y4 y5 y6
      unfold fleuronlaw02_FixTurned.l0
      repeat' first
      | (with_reducible exact ih0 _ _ _ _ _ _ _)
      | (with_reducible exact ih1 _ _ _ _ _ _ _)
      | (with_reducible exact fix_Turn.mono _ _ _ _)
      | (with_reducible exact fleuronlaw02_awake.mono _)
      | (with_reducible exact LeO.refl _)
      | (with_reducible exact LeO.none _)
      | (with_reducible refine LeO.ite ?_ ?_)
      | (with_reducible refine LeO.bind ?_ (fun _ => ?_))
      | exact ih0 _ _ _ _ _ _ _
      | exact ih1 _ _ _ _ _ _ _
      | exact fix_Turn.mono _ _ _ _
      | exact fleuronlaw02_awake.mono _
      | exact LeO.none _
      | refine LeO.ite ?_ ?_
      | refine LeO.bind ?_ (fun _ => ?_)
theorem fleuronlaw02_FixTurned.mono : ∀ a0 a1 a2 k, LeO (fleuronlaw02_FixTurned.f k a0 a1 a2) (fleuronlaw02_FixTurned.f (k + 1) a0 a1 a2) := by
  intro a0 a1 a2 k
  obtain ⟨ih0, ih1⟩ := fleuronlaw02_FixTurned.mono_l k
  unfold fleuronlaw02_FixTurned.f
  repeat' first
      | (with_reducible exact ih0 _ _ _ _ _ _ _)
      | (with_reducible exact ih1 _ _ _ _ _ _ _)
      | (with_reducible exact fix_Turn.mono _ _ _ _)
      | (with_reducible exact fleuronlaw02_awake.mono _)
      | (with_reducible exact LeO.refl _)
      | (with_reducible exact LeO.none _)
      | (with_reducible refine LeO.ite ?_ ?_)
      | (with_reducible refine LeO.bind ?_ (fun _ => ?_))
      | exact ih0 _ _ _ _ _ _ _
      | exact ih1 _ _ _ _ _ _ _
      | exact fix_Turn.mono _ _ _ _
      | exact fleuronlaw02_awake.mono _
      | exact LeO.none _
      | refine LeO.ite ?_ ?_
      | refine LeO.bind ?_ (fun _ => ?_)
set_option maxHeartbeats 8000000 in
set_option maxRecDepth 100000 in
theorem fleuronlaw02_FixTurned.callsT (k : Nat) (a0 : Int) (a1 : Int) (a2 : Int) (w : World) (ht_ : LaidOK w) (h : fleuronlaw02_FixTurned.f k a0 a1 a2 = some true) :
    Calls Tryd.prog 6 #[.int .i64 a0, .int .i64 a1, .int .i16 a2] w fun e w' => e = .returned (.bool true) ∧ Below w.heap.size w w' := by
  have HB := Aside0.mk (Below.refl w.heap.size w)
  have HT_ := Aside0.mk ht_
  clear ht_
  have H : ((fix_Turn.f k a0 a1 (wrap64 ((Int.tmod (wrap64 (a2)) 10000) * 94371840))).bind fun bt252 => (if a0 < (-2147483647) then (fleuronlaw02_FixTurned.j0 k a0 a1 (Int.tmod (wrap64 (a2)) 10000) bt252.1 bt252.2.1 bt252.2.2 true) else (if a0 > 2147483647 then (fleuronlaw02_FixTurned.j0 k a0 a1 (Int.tmod (wrap64 (a2)) 10000) bt252.1 bt252.2.1 bt252.2.2 true) else (if a1 < (-2147483647) then (fleuronlaw02_FixTurned.j0 k a0 a1 (Int.tmod (wrap64 (a2)) 10000) bt252.1 bt252.2.1 bt252.2.2 true) else (fleuronlaw02_FixTurned.j0 k a0 a1 (Int.tmod (wrap64 (a2)) 10000) bt252.1 bt252.2.1 bt252.2.2 (decide (a1 > 2147483647))))))) = some true := h
  clear h
  replace H := Option.bind_eq_some_iff.mp H
  obtain ⟨⟨t252, t253, t254⟩, A40, H⟩ := H
  replace H : (if a0 < (-2147483647) then (fleuronlaw02_FixTurned.j0 k a0 a1 (Int.tmod (wrap64 (a2)) 10000) t252 t253 t254 true) else (if a0 > 2147483647 then (fleuronlaw02_FixTurned.j0 k a0 a1 (Int.tmod (wrap64 (a2)) 10000) t252 t253 t254 true) else (if a1 < (-2147483647) then (fleuronlaw02_FixTurned.j0 k a0 a1 (Int.tmod (wrap64 (a2)) 10000) t252 t253 t254 true) else (fleuronlaw02_FixTurned.j0 k a0 a1 (Int.tmod (wrap64 (a2)) 10000) t252 t253 t254 (decide (a1 > 2147483647)))))) = some true := H
  have A4 := Aside0.mk A40
  clear A40
  have HC5 := Aside0.mk H
  clear H
  go_enter Tryd.func6, Tryd.ntmps6
  go_upto_region 3 with (first | ((with_reducible refine gate_callee (f := 13) rfl ?_); refine goesL_ (some 21) rfl rfl Tryd.func13 (by kernel_rfl) rfl #[.int .i64 a0, .int .i64 a1, .int .i64 (wrap64 ((Int.tmod (wrap64 (a2)) 10000) * 94371840))] rfl (by (try simp only [List.map_toArray, List.map_cons, List.map_nil]); first | done | rfl | (simp only [List.length_drop, List.length_take]; rfl)) ?_; (with_reducible refine (fix_Turn.calls k a0 a1 (wrap64 ((Int.tmod (wrap64 (a2)) 10000) * 94371840)) t252 t253 t254 _ A4.out).mono ?_); rintro e w6 ⟨rfl, hb⟩; refine ⟨_, rfl, ?_⟩; have n0_ := Aside0.mk (below_step (by repeat (first | (with_reducible first | exact HB.out | apply below_alloc | apply pw_below_drewN | apply below_drew1) | exact HB.out)) hb); clear HB; have HB := n0_; clear n0_; (try clear hb); (try clear hb2); (try clear hk); (try clear hi)))
  (try simp only [Act.put, List.setIfInBounds_toArray, List.set_cons_zero, List.set_cons_succ])
  go_cut [38] (fun v38 wc => ∃ (kq : Nat) (x38_4 : Bool), v38 = .bool x38_4 ∧ Aside0 (fleuronlaw02_FixTurned.j0 kq a0 a1 (Int.tmod (wrap64 (a2)) 10000) t252 t253 t254 x38_4 = some true) ∧ Aside0 (kq ≤ k) ∧ Aside0 (Below w.heap.size w wc))
  case first =>
    have H := HC5.out
    clear HC5
    by_cases c7 : a0 < (-2147483647)
    · rw [if_pos c7] at H
      have c7b0 : decide (a0 < (-2147483647)) = true := decide_eq_true c7
      clear c7
      (first | rw [c7b0] | (simp only [i64_w, i32_w]; rw [c7b0]) | skip)
      have H' := Aside0.mk H
      clear H
      go_wp2
      go_meet
      case rel => exact ⟨_, (true), (by first | rfl | (simp; done) | (simp [*]; done)), H', ⟨by first | omega | exact Nat.le_refl _⟩, ⟨by repeat (first | (with_reducible first | exact HB.out | apply below_alloc | apply pw_below_drewN | apply below_drew1) | exact HB.out)⟩⟩
    · rw [if_neg c7] at H
      have c7b0 : decide (a0 < (-2147483647)) = false := decide_eq_false c7
      clear c7
      (first | rw [c7b0] | (simp only [i64_w, i32_w]; rw [c7b0]) | skip)
      by_cases c8 : a0 > 2147483647
      · rw [if_pos c8] at H
        have c8b0 : decide (2147483647 < a0) = true := decide_eq_true c8
        clear c8
        have H' := Aside0.mk H
        clear H
        go_wp2
        go_meet
        case rel => exact ⟨_, (true), (by first | rfl | (simp; done) | (simp [*]; done)), H', ⟨by first | omega | exact Nat.le_refl _⟩, ⟨by repeat (first | (with_reducible first | exact HB.out | apply below_alloc | apply pw_below_drewN | apply below_drew1) | exact HB.out)⟩⟩
      · rw [if_neg c8] at H
        have c8b0 : decide (2147483647 < a0) = false := decide_eq_false c8
        clear c8
        by_cases c9 : a1 < (-2147483647)
        · rw [if_pos c9] at H
          have c9b0 : decide (a1 < (-2147483647)) = true := decide_eq_true c9
          clear c9
          have H' := Aside0.mk H
          clear H
          go_wp2
          go_meet
          case rel => exact ⟨_, (true), (by first | rfl | (simp; done) | (simp [*]; done)), H', ⟨by first | omega | exact Nat.le_refl _⟩, ⟨by repeat (first | (with_reducible first | exact HB.out | apply below_alloc | apply pw_below_drewN | apply below_drew1) | exact HB.out)⟩⟩
        · rw [if_neg c9] at H
          have c9b0 : decide (a1 < (-2147483647)) = false := decide_eq_false c9
          clear c9
          have H' := Aside0.mk H
          clear H
          go_wp2
          go_meet
          case rel => exact ⟨_, (decide (a1 > 2147483647)), (by first | rfl | (simp; done) | (simp [*]; done)), H', ⟨by first | omega | exact Nat.le_refl _⟩, ⟨by repeat (first | (with_reducible first | exact HB.out | apply below_alloc | apply pw_below_drewN | apply below_drew1) | exact HB.out)⟩⟩
  case rest =>
    clear HC5
    try clear c1
    try clear p2
    try clear c6
    try clear p6
    try clear c7
    try clear c7b0
    try clear c8
    try clear c8b0
    try clear c9
    try clear c9b0
    obtain ⟨kq, x38_4, rfl, HA, HJ4, HB⟩ := hcut
    cases kq with
    | zero => exact absurd HA.out (by simp [fleuronlaw02_FixTurned.j0])
    | succ kj4 =>
      have H := HA.out
      clear HA
      simp only [fleuronlaw02_FixTurned.j0] at H
      by_cases c10 : x38_4 = true
      · subst c10
        have H1 : (if t252 = 0 then (if t253 = 0 then (if t254 = 2 then ((fleuronlaw02_awake.f kj4).bind fun t255 => (some t255)) else (some false)) else (some false)) else (some false)) = some true := by rw [if_pos rfl] at H; exact H
        clear H
        have H := H1
        clear H1
        by_cases c11 : t252 = 0
        · rw [if_pos c11] at H
          have c11b0 : (t252 == 0) = true := beq_iff_eq.mpr c11
          have c11b1 : (t252 != 0) = false := bne_eq_false_iff_eq.mpr c11
          clear c11
          by_cases c12 : t253 = 0
          · rw [if_pos c12] at H
            have c12b0 : (t253 == 0) = true := beq_iff_eq.mpr c12
            have c12b1 : (t253 != 0) = false := bne_eq_false_iff_eq.mpr c12
            clear c12
            by_cases c13 : t254 = 2
            · rw [if_pos c13] at H
              have c13b0 : (t254 == 2) = true := beq_iff_eq.mpr c13
              have c13b1 : (t254 != 2) = false := bne_eq_false_iff_eq.mpr c13
              clear c13
              replace H := Option.bind_eq_some_iff.mp H
              obtain ⟨t255, A140, H⟩ := H
              replace H : (some t255) = some true := H
              have A14 := Aside0.mk A140
              clear A140
              have hr_ := Option.some.inj H
              clear H
              go_wp2_with (first | (go_at_call 8; (with_reducible refine (fleuronlaw02_awake.callsT kj4   _ ?side1 (Aside0.mk (by have z_ := A14.out; rw [show t255 = true by assumption] at z_; exact z_)).out).mono ?_); (case side1 => exact LaidOK.below HT_.out (by repeat (first | (with_reducible first | exact HB.out | apply below_alloc | apply pw_below_drewN | apply below_drew1) | exact HB.out))); rintro e w15 ⟨rfl, hb⟩; have n0_ := Aside0.mk (below_step (by repeat (first | (with_reducible first | exact HB.out | apply below_alloc | apply pw_below_drewN | apply below_drew1) | exact HB.out)) hb); clear HB; have HB := n0_; clear n0_; (try clear hb); (try clear hb2); (try clear hk); (try clear hi)))
              go_ret
              exact ⟨by first | rfl | (simp [errW_none, errW_some] <;> rfl) | (simp [*, errW_none, errW_some] <;> rfl), by repeat (first | (with_reducible first | exact HB.out | apply below_alloc | apply pw_below_drewN | apply below_drew1) | exact HB.out)⟩
            · rw [if_neg c13] at H
              have c13b0 : (t254 == 2) = false := beq_eq_false_iff_ne.mpr c13
              have c13b1 : (t254 != 2) = true := bne_iff_ne.mpr c13
              exact absurd H (by simp)
          · rw [if_neg c12] at H
            have c12b0 : (t253 == 0) = false := beq_eq_false_iff_ne.mpr c12
            have c12b1 : (t253 != 0) = true := bne_iff_ne.mpr c12
            exact absurd H (by simp)
        · rw [if_neg c11] at H
          have c11b0 : (t252 == 0) = false := beq_eq_false_iff_ne.mpr c11
          have c11b1 : (t252 != 0) = true := bne_iff_ne.mpr c11
          exact absurd H (by simp)
      · replace c10 := Bool.eq_false_iff.mpr c10
        subst c10
        have H1 : (fleuronlaw02_FixTurned.l0 kj4 a0 a1 (Int.tmod (wrap64 (a2)) 10000) t252 t253 t254 0) = some true := by rw [if_neg (show ¬ (false = true) by decide)] at H; exact H
        clear H
        have H := H1
        clear H1
        have H' := Aside0.mk H
        clear H
        go_wp2
        go_loopg [0, 1, 11] kj4 (fun kq v0 v1 v11 w' => ∃ (x0_2 : Int) (x1_2 : Int) (x11_2 : Int), v0 = .int .i64 x0_2 ∧ v1 = .int .i64 x1_2 ∧ v11 = .int .i64 x11_2 ∧ Aside0 (fleuronlaw02_FixTurned.l0 kq x0_2 x1_2 (Int.tmod (wrap64 (a2)) 10000) t252 t253 t254 x11_2 = some true) ∧ Aside0 (kq ≤ kj4) ∧ Aside0 (Below w.heap.size w w'))
        case atStart => exact ⟨(a0), (a1), (0), (by first | rfl | (simp; done) | (simp [*]; done)), (by first | rfl | (simp; done) | (simp [*]; done)), (by first | rfl | (simp; done) | (simp [*]; done)), H', ⟨Nat.le_refl _⟩, ⟨by repeat (first | (with_reducible first | exact HB.out | apply below_alloc | apply pw_below_drewN | apply below_drew1) | exact HB.out)⟩⟩
        case round =>
          clear H'
          try clear c1
          try clear p2
          try clear c6
          try clear p6
          try clear c7
          try clear c7b0
          try clear c8
          try clear c8b0
          try clear c9
          try clear c9b0
          try clear c10
          try clear c11
          try clear c11b0
          try clear c11b1
          try clear c12
          try clear c12b0
          try clear c12b1
          try clear c13
          try clear c13b0
          try clear c13b1
          try clear p2
          try clear p6
          obtain ⟨x0_2, x1_2, x11_2, rfl, rfl, rfl, HA, HK2, HB⟩ := hrel
          cases gk with
          | zero => exact absurd HA.out (by simp [fleuronlaw02_FixTurned.l0])
          | succ k2 =>
            have H := HA.out
            clear HA
            simp only [fleuronlaw02_FixTurned.l0] at H
            by_cases c16 : x11_2 < (Int.tmod (wrap64 ((Int.tmod (Int.tmod (wrap64 (a2)) 10000) 4) + 4)) 4)
            · rw [if_pos c16] at H
              have c16b0 : decide (x11_2 < (Int.tmod (wrap64 ((Int.tmod (Int.tmod (wrap64 (a2)) 10000) 4) + 4)) 4)) = true := decide_eq_true c16
              try simp only [Int.tmod_tmod_of_dvd _ (show (4 : Int) ∣ 10000 by decide)] at c16b0
              clear c16
              have H' := Aside0.mk H
              clear H
              go_wp2
              go_roundg k2
              case measure => have := HJ4.out; have := HK2.out; omega
              case rel => exact ⟨(wrap64 (-x1_2)), (x0_2), (wrap64 (x11_2 + 1)), (by first | rfl | (simp; done) | (simp [*]; done)), (by first | rfl | (simp; done) | (simp [*]; done)), (by first | rfl | (simp; done) | (simp [*]; done)), H', ⟨by have := HJ4.out; have := HK2.out; omega⟩, ⟨by repeat (first | (with_reducible first | exact HB.out | apply below_alloc | apply pw_below_drewN | apply below_drew1) | exact HB.out)⟩⟩
            · rw [if_neg c16] at H
              have c16b0 : decide (x11_2 < (Int.tmod (wrap64 ((Int.tmod (Int.tmod (wrap64 (a2)) 10000) 4) + 4)) 4)) = false := decide_eq_false c16
              try simp only [Int.tmod_tmod_of_dvd _ (show (4 : Int) ∣ 10000 by decide)] at c16b0
              clear c16
              by_cases c17 : t254 = 0
              · rw [if_pos c17] at H
                have c17b0 : (t254 == 0) = true := beq_iff_eq.mpr c17
                have c17b1 : (t254 != 0) = false := bne_eq_false_iff_eq.mpr c17
                clear c17
                by_cases c18 : t252 = x0_2
                · rw [if_pos c18] at H
                  have c18b0 : (t252 == x0_2) = true := beq_iff_eq.mpr c18
                  have c18b1 : (t252 != x0_2) = false := bne_eq_false_iff_eq.mpr c18
                  clear c18
                  by_cases c19 : t253 = x1_2
                  · rw [if_pos c19] at H
                    have c19b0 : (t253 == x1_2) = true := beq_iff_eq.mpr c19
                    have c19b1 : (t253 != x1_2) = false := bne_eq_false_iff_eq.mpr c19
                    clear c19
                    replace H := Option.bind_eq_some_iff.mp H
                    obtain ⟨t256, A200, H⟩ := H
                    replace H : (some t256) = some true := H
                    have A20 := Aside0.mk A200
                    clear A200
                    have hr_ := Option.some.inj H
                    clear H
                    go_wp2_with (first | (go_at_call 8; (with_reducible refine (fleuronlaw02_awake.callsT k2   _ ?side1 (Aside0.mk (by have z_ := A20.out; rw [show t256 = true by assumption] at z_; exact z_)).out).mono ?_); (case side1 => exact LaidOK.below HT_.out (by repeat (first | (with_reducible first | exact HB.out | apply below_alloc | apply pw_below_drewN | apply below_drew1) | exact HB.out))); rintro e w21 ⟨rfl, hb⟩; have n0_ := Aside0.mk (below_step (by repeat (first | (with_reducible first | exact HB.out | apply below_alloc | apply pw_below_drewN | apply below_drew1) | exact HB.out)) hb); clear HB; have HB := n0_; clear n0_; (try clear hb); (try clear hb2); (try clear hk); (try clear hi)))
                    go_ret
                    exact ⟨by first | rfl | (simp [errW_none, errW_some] <;> rfl) | (simp [*, errW_none, errW_some] <;> rfl), by repeat (first | (with_reducible first | exact HB.out | apply below_alloc | apply pw_below_drewN | apply below_drew1) | exact HB.out)⟩
                  · rw [if_neg c19] at H
                    have c19b0 : (t253 == x1_2) = false := beq_eq_false_iff_ne.mpr c19
                    have c19b1 : (t253 != x1_2) = true := bne_iff_ne.mpr c19
                    exact absurd H (by simp)
                · rw [if_neg c18] at H
                  have c18b0 : (t252 == x0_2) = false := beq_eq_false_iff_ne.mpr c18
                  have c18b1 : (t252 != x0_2) = true := bne_iff_ne.mpr c18
                  exact absurd H (by simp)
              · rw [if_neg c17] at H
                have c17b0 : (t254 == 0) = false := beq_eq_false_iff_ne.mpr c17
                have c17b1 : (t254 != 0) = true := bne_iff_ne.mpr c17
                exact absurd H (by simp)

/-- THE ONE PURE STATEMENT of fleuronlaw02_FixTurned: yours. -/
def fleuronlaw02_FixTurned.Pure : Prop := ∀ (a0 : Int) (a1 : Int) (a2 : Int), (Lit.int .i64 a0).wf = true → (Lit.int .i64 a1).wf = true → (Lit.int .i16 a2).wf = true → ∃ k, fleuronlaw02_FixTurned.f k a0 a1 a2 = some true
theorem fleuronlaw02_FixTurned.walk (P : fleuronlaw02_FixTurned.Pure) (a0 : Int) (a1 : Int) (a2 : Int) (w : World) (w0 : (Lit.int .i64 a0).wf = true) (w1 : (Lit.int .i64 a1).wf = true) (w2 : (Lit.int .i16 a2).wf = true) (ht_ : LaidOK w) :
    Calls Tryd.prog 6 #[.int .i64 a0, .int .i64 a1, .int .i16 a2] w fun e w' => e = .returned (.bool true) ∧ Below w.heap.size w w' := by
  obtain ⟨k, h⟩ := P a0 a1 a2 w0 w1 w2
  refine (fleuronlaw02_FixTurned.callsT k a0 a1 a2 w ht_ h).mono ?_
  rintro e w' ⟨rfl, hd⟩
  exact ⟨rfl, hd⟩

end Go.Proofs.YtjaifahodfljkaaDoor.Z
