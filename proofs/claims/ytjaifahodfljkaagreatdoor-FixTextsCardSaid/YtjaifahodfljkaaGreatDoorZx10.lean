/- Laid by program (this session's, over the kit's print): functions of this seat as plain Lean functions, each with its contract. -/
import Derived.Test.YtjaifahodfljkaaGreatDoorZx0
import Derived.Test.YtjaifahodfljkaaGreatDoorZx4
import Derived.Test.YtjaifahodfljkaaGreatDoorZx5
import Derived.Test.YtjaifahodfljkaaGreatDoorZx7
import Derived.Test.YtjaifahodfljkaaGreatDoorZx9
namespace Go.Proofs.YtjaifahodfljkaaGreatDoor.Z
open Go.RowKit Go.Proofs.YtjaifahodfljkaaGreatDoorW.PrintWords Go.Proofs.YtjaifahodfljkaaGreatDoorW.PrintLast Go.Proofs.YtjaifahodfljkaaGreatDoorW.PrintMore
attribute [local go_sem] max2_int min2_int max_two min_two max_three min_three max_four min_four   -- for this text's walks alone
set_option linter.unusedVariables false
set_option linter.unusedSimpArgs false

/-! ### fleuronlaw02_FixTexts: function 8 -/
def fleuronlaw02_FixTexts.f (k : Nat) (a0 : Int) (a1 : ByteArray) : Option (Bool) := if (a1.size : Int) > 10000 then ((fleuronlaw02_awake.f k).bind fun t359 => (some t359)) else ((fix_Text.f k a0).bind fun bt360 => ((fleuronref02_Text.f k a0).bind fun bt362 => ((fix_Parse.f k a1).bind fun bt364 => ((fleuronref02_Parse.f k a1).bind fun bt366 => (if bt360.1.toList = bt362.1.toList then (if bt360.2 = bt362.2 then (if bt364.1 = bt366.1 then (if bt364.2 = bt366.2 then ((fleuronlaw02_awake.f k).bind fun t368 => (some t368)) else (some false)) else (some false)) else (some false)) else (some false))))))
theorem fleuronlaw02_FixTexts.mono : ∀ a0 a1 k, LeO (fleuronlaw02_FixTexts.f k a0 a1) (fleuronlaw02_FixTexts.f (k + 1) a0 a1) := by
  intro a0 a1 k
  unfold fleuronlaw02_FixTexts.f
  repeat' first
      | (with_reducible exact fix_Parse.mono _ _)
      | (with_reducible exact fix_Text.mono _ _)
      | (with_reducible exact fleuronlaw02_awake.mono _)
      | (with_reducible exact fleuronref02_Parse.mono _ _)
      | (with_reducible exact fleuronref02_Text.mono _ _)
      | (with_reducible exact LeO.refl _)
      | (with_reducible exact LeO.none _)
      | (with_reducible refine LeO.ite ?_ ?_)
      | (with_reducible refine LeO.bind ?_ (fun _ => ?_))
      | exact fix_Parse.mono _ _
      | exact fix_Text.mono _ _
      | exact fleuronlaw02_awake.mono _
      | exact fleuronref02_Parse.mono _ _
      | exact fleuronref02_Text.mono _ _
      | exact LeO.none _
      | refine LeO.ite ?_ ?_
      | refine LeO.bind ?_ (fun _ => ?_)
set_option maxHeartbeats 8000000 in
set_option maxRecDepth 100000 in
theorem fleuronlaw02_FixTexts.callsT (k : Nat) (a0 : Int) (a1 : ByteArray) (w : World) (ht_ : LaidOK w) (h : fleuronlaw02_FixTexts.f k a0 a1 = some true) :
    Calls Tryz.prog 8 #[.int .i64 a0, .string a1] w fun e w' => e = .returned (.bool true) ∧ Below w.heap.size w w' := by
  have HB := Aside0.mk (Below.refl w.heap.size w)
  have HT_ := Aside0.mk ht_
  clear ht_
  have H : (if (a1.size : Int) > 10000 then ((fleuronlaw02_awake.f k).bind fun t359 => (some t359)) else ((fix_Text.f k a0).bind fun bt360 => ((fleuronref02_Text.f k a0).bind fun bt362 => ((fix_Parse.f k a1).bind fun bt364 => ((fleuronref02_Parse.f k a1).bind fun bt366 => (if bt360.1.toList = bt362.1.toList then (if bt360.2 = bt362.2 then (if bt364.1 = bt366.1 then (if bt364.2 = bt366.2 then ((fleuronlaw02_awake.f k).bind fun t368 => (some t368)) else (some false)) else (some false)) else (some false)) else (some false))))))) = some true := h
  clear h
  by_cases c3 : (a1.size : Int) > 10000
  · rw [if_pos c3] at H
    have c3b0 : decide (10000 < (a1.size : Int)) = true := decide_eq_true c3
    have c3b1 : decide (10000 < a1.size) = true := decide_eq_true (by omega)
    clear c3
    replace H := Option.bind_eq_some_iff.mp H
    obtain ⟨t359, A40, H⟩ := H
    replace H : (some t359) = some true := H
    have A4 := Aside0.mk A40
    clear A40
    have hr_ := Option.some.inj H
    clear H
    go_enter Tryz.func8, Tryz.ntmps8
    go_wp2_with (first | ((with_reducible refine gate_callee (f := 13) rfl ?_); refine goesL_ (some 16) rfl rfl Tryz.func13 (by kernel_rfl) rfl #[] rfl (by (try simp only [List.map_toArray, List.map_cons, List.map_nil]); first | done | rfl | (simp only [List.length_drop, List.length_take]; rfl)) ?_; (with_reducible refine (fleuronlaw02_awake.callsT k   _ ?side1 (Aside0.mk (by have z_ := A4.out; rw [show t359 = true by assumption] at z_; exact z_)).out).mono ?_); (case side1 => exact LaidOK.below HT_.out (by repeat (first | (with_reducible first | exact HB.out | apply below_alloc | apply pw_below_drewN | apply below_drew1) | exact HB.out))); rintro e w5 ⟨rfl, hb⟩; refine ⟨_, rfl, ?_⟩; have n0_ := Aside0.mk (below_step (by repeat (first | (with_reducible first | exact HB.out | apply below_alloc | apply pw_below_drewN | apply below_drew1) | exact HB.out)) hb); clear HB; have HB := n0_; clear n0_; (try clear hb); (try clear hb2); (try clear hk); (try clear hi)))
    go_ret
    exact ⟨by first | rfl | (simp [errW_none, errW_some] <;> rfl) | (simp [*, errW_none, errW_some] <;> rfl), by repeat (first | (with_reducible first | exact HB.out | apply below_alloc | apply pw_below_drewN | apply below_drew1) | exact HB.out)⟩
  · rw [if_neg c3] at H
    have c3b0 : decide (10000 < (a1.size : Int)) = false := decide_eq_false c3
    have c3b1 : decide (10000 < a1.size) = false := decide_eq_false (by omega)
    clear c3
    replace H := Option.bind_eq_some_iff.mp H
    obtain ⟨⟨t360, t361⟩, A60, H⟩ := H
    replace H : ((fleuronref02_Text.f k a0).bind fun bt362 => ((fix_Parse.f k a1).bind fun bt364 => ((fleuronref02_Parse.f k a1).bind fun bt366 => (if t360.toList = bt362.1.toList then (if t361 = bt362.2 then (if bt364.1 = bt366.1 then (if bt364.2 = bt366.2 then ((fleuronlaw02_awake.f k).bind fun t368 => (some t368)) else (some false)) else (some false)) else (some false)) else (some false))))) = some true := H
    have A6 := Aside0.mk A60
    clear A60
    replace H := Option.bind_eq_some_iff.mp H
    obtain ⟨⟨t362, t363⟩, A70, H⟩ := H
    replace H : ((fix_Parse.f k a1).bind fun bt364 => ((fleuronref02_Parse.f k a1).bind fun bt366 => (if t360.toList = t362.toList then (if t361 = t363 then (if bt364.1 = bt366.1 then (if bt364.2 = bt366.2 then ((fleuronlaw02_awake.f k).bind fun t368 => (some t368)) else (some false)) else (some false)) else (some false)) else (some false)))) = some true := H
    have A7 := Aside0.mk A70
    clear A70
    replace H := Option.bind_eq_some_iff.mp H
    obtain ⟨⟨t364, t365⟩, A80, H⟩ := H
    replace H : ((fleuronref02_Parse.f k a1).bind fun bt366 => (if t360.toList = t362.toList then (if t361 = t363 then (if t364 = bt366.1 then (if t365 = bt366.2 then ((fleuronlaw02_awake.f k).bind fun t368 => (some t368)) else (some false)) else (some false)) else (some false)) else (some false))) = some true := H
    have A8 := Aside0.mk A80
    clear A80
    replace H := Option.bind_eq_some_iff.mp H
    obtain ⟨⟨t366, t367⟩, A90, H⟩ := H
    replace H : (if t360.toList = t362.toList then (if t361 = t363 then (if t364 = t366 then (if t365 = t367 then ((fleuronlaw02_awake.f k).bind fun t368 => (some t368)) else (some false)) else (some false)) else (some false)) else (some false)) = some true := H
    have A9 := Aside0.mk A90
    clear A90
    by_cases c10 : t360.toList = t362.toList
    · rw [if_pos c10] at H
      have c10b0 : (t360.toList == t362.toList) = true := beq_iff_eq.mpr c10
      have c10b1 : (t360.toList != t362.toList) = false := bne_eq_false_iff_eq.mpr c10
      clear c10
      by_cases c11 : t361 = t363
      · rw [if_pos c11] at H
        have c11b0 : (t361 == t363) = true := beq_iff_eq.mpr c11
        have c11b1 : (t361 != t363) = false := bne_eq_false_iff_eq.mpr c11
        clear c11
        by_cases c12 : t364 = t366
        · rw [if_pos c12] at H
          have c12b0 : (t364 == t366) = true := beq_iff_eq.mpr c12
          have c12b1 : (t364 != t366) = false := bne_eq_false_iff_eq.mpr c12
          clear c12
          by_cases c13 : t365 = t367
          · rw [if_pos c13] at H
            have c13b0 : (t365 == t367) = true := beq_iff_eq.mpr c13
            have c13b1 : (t365 != t367) = false := bne_eq_false_iff_eq.mpr c13
            clear c13
            replace H := Option.bind_eq_some_iff.mp H
            obtain ⟨t368, A140, H⟩ := H
            replace H : (some t368) = some true := H
            have A14 := Aside0.mk A140
            clear A140
            have hr_ := Option.some.inj H
            clear H
            go_enter Tryz.func8, Tryz.ntmps8
            go_wp2_with (first | ((with_reducible refine gate_callee (f := 26) rfl ?_); refine goesL_ (some 19) rfl rfl Tryz.func26 (by kernel_rfl) rfl #[.int .i64 a0] rfl (by (try simp only [List.map_toArray, List.map_cons, List.map_nil]); first | done | rfl | (simp only [List.length_drop, List.length_take]; rfl)) ?_; (with_reducible refine (fix_Text.calls k a0 t360 t361 _ ?side1 A6.out).mono ?_); (case side1 => exact LaidOK.below HT_.out (by repeat (first | (with_reducible first | exact HB.out | apply below_alloc | apply pw_below_drewN | apply below_drew1) | exact HB.out))); rintro e w15 ⟨rfl, hb⟩; refine ⟨_, rfl, ?_⟩; have n0_ := Aside0.mk (below_step (by repeat (first | (with_reducible first | exact HB.out | apply below_alloc | apply pw_below_drewN | apply below_drew1) | exact HB.out)) hb); clear HB; have HB := n0_; clear n0_; (try clear hb); (try clear hb2); (try clear hk); (try clear hi)) | ((with_reducible refine gate_callee (f := 27) rfl ?_); refine goesL_ (some 24) rfl rfl Tryz.func27 (by kernel_rfl) rfl #[.int .i64 a0] rfl (by (try simp only [List.map_toArray, List.map_cons, List.map_nil]); first | done | rfl | (simp only [List.length_drop, List.length_take]; rfl)) ?_; (with_reducible refine (fleuronref02_Text.calls k a0 t362 t363 _ A7.out).mono ?_); rintro e w16 ⟨rfl, hb⟩; refine ⟨_, rfl, ?_⟩; have n0_ := Aside0.mk (below_step (by repeat (first | (with_reducible first | exact HB.out | apply below_alloc | apply pw_below_drewN | apply below_drew1) | exact HB.out)) hb); clear HB; have HB := n0_; clear n0_; (try clear hb); (try clear hb2); (try clear hk); (try clear hi)) | ((with_reducible refine gate_callee (f := 28) rfl ?_); refine goesL_ (some 29) rfl rfl Tryz.func28 (by kernel_rfl) rfl #[.string a1] rfl (by (try simp only [List.map_toArray, List.map_cons, List.map_nil]); first | done | rfl | (simp only [List.length_drop, List.length_take]; rfl)) ?_; (with_reducible refine (fix_Parse.calls k a1 t364 t365 _ ?side1 A8.out).mono ?_); (case side1 => exact LaidOK.below HT_.out (by repeat (first | (with_reducible first | exact HB.out | apply below_alloc | apply pw_below_drewN | apply below_drew1) | exact HB.out))); rintro e w17 ⟨rfl, hb⟩; refine ⟨_, rfl, ?_⟩; have n0_ := Aside0.mk (below_step (by repeat (first | (with_reducible first | exact HB.out | apply below_alloc | apply pw_below_drewN | apply below_drew1) | exact HB.out)) hb); clear HB; have HB := n0_; clear n0_; (try clear hb); (try clear hb2); (try clear hk); (try clear hi)) | ((with_reducible refine gate_callee (f := 29) rfl ?_); refine goesL_ (some 34) rfl rfl Tryz.func29 (by kernel_rfl) rfl #[.string a1] rfl (by (try simp only [List.map_toArray, List.map_cons, List.map_nil]); first | done | rfl | (simp only [List.length_drop, List.length_take]; rfl)) ?_; (with_reducible refine (fleuronref02_Parse.calls k a1 t366 t367 _ A9.out).mono ?_); rintro e w18 ⟨rfl, hb⟩; refine ⟨_, rfl, ?_⟩; have n0_ := Aside0.mk (below_step (by repeat (first | (with_reducible first | exact HB.out | apply below_alloc | apply pw_below_drewN | apply below_drew1) | exact HB.out)) hb); clear HB; have HB := n0_; clear n0_; (try clear hb); (try clear hb2); (try clear hk); (try clear hi)) | (go_at_call 13; (with_reducible refine (fleuronlaw02_awake.callsT k   _ ?side1 (Aside0.mk (by have z_ := A14.out; rw [show t368 = true by assumption] at z_; exact z_)).out).mono ?_); (case side1 => exact LaidOK.below HT_.out (by repeat (first | (with_reducible first | exact HB.out | apply below_alloc | apply pw_below_drewN | apply below_drew1) | exact HB.out))); rintro e w19 ⟨rfl, hb⟩; have n0_ := Aside0.mk (below_step (by repeat (first | (with_reducible first | exact HB.out | apply below_alloc | apply pw_below_drewN | apply below_drew1) | exact HB.out)) hb); clear HB; have HB := n0_; clear n0_; (try clear hb); (try clear hb2); (try clear hk); (try clear hi)))
            go_ret
            exact ⟨by first | rfl | (simp [errW_none, errW_some] <;> rfl) | (simp [*, errW_none, errW_some] <;> rfl), by repeat (first | (with_reducible first | exact HB.out | apply below_alloc | apply pw_below_drewN | apply below_drew1) | exact HB.out)⟩
          · rw [if_neg c13] at H
            have c13b0 : (t365 == t367) = false := beq_eq_false_iff_ne.mpr c13
            have c13b1 : (t365 != t367) = true := bne_iff_ne.mpr c13
            exact absurd H (by simp)
        · rw [if_neg c12] at H
          have c12b0 : (t364 == t366) = false := beq_eq_false_iff_ne.mpr c12
          have c12b1 : (t364 != t366) = true := bne_iff_ne.mpr c12
          exact absurd H (by simp)
      · rw [if_neg c11] at H
        have c11b0 : (t361 == t363) = false := beq_eq_false_iff_ne.mpr c11
        have c11b1 : (t361 != t363) = true := bne_iff_ne.mpr c11
        exact absurd H (by simp)
    · rw [if_neg c10] at H
      have c10b0 : (t360.toList == t362.toList) = false := beq_eq_false_iff_ne.mpr c10
      have c10b1 : (t360.toList != t362.toList) = true := bne_iff_ne.mpr c10
      exact absurd H (by simp)

/-- THE ONE PURE STATEMENT of fleuronlaw02_FixTexts: yours. -/
def fleuronlaw02_FixTexts.Pure : Prop := ∀ (a0 : Int) (a1 : ByteArray), (Lit.int .i64 a0).wf = true → a1.size ≤ 140737488351232 → ∃ k, fleuronlaw02_FixTexts.f k a0 a1 = some true
theorem fleuronlaw02_FixTexts.walk (P : fleuronlaw02_FixTexts.Pure) (a0 : Int) (a1 : ByteArray) (w : World) (w0 : (Lit.int .i64 a0).wf = true) (w1 : a1.size ≤ 140737488351232) (ht_ : LaidOK w) :
    Calls Tryz.prog 8 #[.int .i64 a0, .string a1] w fun e w' => e = .returned (.bool true) ∧ Below w.heap.size w w' := by
  obtain ⟨k, h⟩ := P a0 a1 w0 w1
  refine (fleuronlaw02_FixTexts.callsT k a0 a1 w ht_ h).mono ?_
  rintro e w' ⟨rfl, hd⟩
  exact ⟨rfl, hd⟩

end Go.Proofs.YtjaifahodfljkaaGreatDoor.Z
