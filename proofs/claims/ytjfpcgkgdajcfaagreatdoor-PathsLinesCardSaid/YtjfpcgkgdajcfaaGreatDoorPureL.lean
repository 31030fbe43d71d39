/-
  PathsLines, plainly: the printed functions answer true; no condition but the sizes named.
-/
import Derived.Test.YtjfpcgkgdajcfaaGreatDoorEvPd
import Derived.Test.YtjfpcgkgdajcfaaGreatDoorS0
import Derived.Test.YtjfpcgkgdajcfaaGreatDoorPureA
open Go Go.Ev
namespace Go.Proofs.YtjfpcgkgdajcfaaGreatDoor
set_option linter.unusedSimpArgs false
set_option linter.unusedVariables false
/-- Is a point placed? -/
def plc (p : Int × Int) : Bool := decide (-268435455 ≤ p.1 ∧ p.1 ≤ 268435455 ∧ -268435455 ≤ p.2 ∧ p.2 ≤ 268435455)
theorem F55_eq (k : Nat) (x y : Int) : F55 (k + 1) x y = some (plc (x, y)) := by
  have h : F55 (k + 1) x y = some (decide (-268435455 ≤ mn2 x y) && decide (mx2 x y ≤ 268435455)) := by
    unfold F55
    dsimp only
    cases decide (-268435455 ≤ mn2 x y) <;> rfl
  rw [h]
  congr 1
  rw [Bool.eq_iff_iff]
  unfold plc mn2 mx2
  simp only [Bool.and_eq_true, decide_eq_true_eq]
  split <;> split <;> omega
theorem F54_eq (k : Nat) (x y : Int) : F54 (k + 2) x y = some (!plc (x, y)) := by
  unfold F54
  simp only [F55_eq, Option.bind_some]
theorem F57_eq (k : Nat) (x y : Int) : F57 (k + 1) x y = some (plc (x, y)) := by
  have h : F57 (k + 1) x y = some (decide (-268435455 ≤ x) && (decide (x ≤ 268435455) && (decide (-268435455 ≤ y) && decide (y ≤ 268435455)))) := by
    unfold F57
    dsimp only
    cases decide (-268435455 ≤ x) <;> cases decide (x ≤ 268435455) <;> cases decide (-268435455 ≤ y) <;> rfl
  rw [h]
  congr 1
  rw [Bool.eq_iff_iff]
  unfold plc
  simp only [Bool.and_eq_true, decide_eq_true_eq]
/-- The third of a difference, as both sides take it. -/
def rd (x : Int) : Int := bif (decide ((w64 (w64 (2 * x) + 3)).tmod 6 < 0)) then w64 (w64 ((w64 (w64 (2 * x) + 3)).tdiv 6) - 1) else w64 ((w64 (w64 (2 * x) + 3)).tdiv 6)
theorem F56_eq (k : Nat) (x : Int) : F56 (k + 2) x 3 = some (rd x) := by
  have h6 : w64 (2 * 3) = 6 := by decide
  unfold F56 F88 rd
  simp only [h6]
  cases decide ((w64 (w64 (2 * x) + 3)).tmod 6 < 0) <;> rfl
section
variable (l : List (Int × Int)) (c : Bool)
def pt (j : Nat) : Int × Int := l.getD j (0, 0)
/-- The two control points behind a point. -/
def seg (j : Nat) : List AV :=
  let z := pt l j; let w := pt l ((j + 1) % l.length)
  [encP (w64 (z.1 + rd (w64 (w.1 - z.1))), w64 (z.2 + rd (w64 (w.2 - z.2)))), encP (w64 (w.1 - rd (w64 (w.1 - z.1))), w64 (w.2 - rd (w64 (w.2 - z.2))))]
/-- What is appended from a place on. -/
def out : Nat → Nat → List AV
  | 0, _ => []
  | r + 1, j => encP (pt l j) :: (bif (r == 0 && !c) then [] else seg l j ++ out r (j + 1))
theorem clean_seg (j : Nat) : AV.cleanL (seg l j) = true := rfl
theorem clean_out : ∀ r j, AV.cleanL (out l c r j) = true := by
  intro r
  induction r with
  | zero => intro j; rfl
  | succ r ih =>
    intro j
    unfold out
    cases hb : (r == 0 && !c) with
    | true => rfl
    | false =>
      rw [cond_false, AV.cleanL, clean_app, clean_seg, ih]
      rfl
end
variable {l : List (Int × Int)} {c : Bool} {k : Nat}
theorem w_len (hl : l.length ≤ 210) (hp : 0 < l.length) : w64 ((l.length : Int) - 1) = (l.length : Int) - 1 := w64_id (by omega) (by omega)
theorem nxt_eq {j : Nat} (hj : j < l.length) (hl : l.length ≤ 210) : (w64 ((j : Int) + 1)).tmod (l.length : Int) = (((j + 1) % l.length : Nat) : Int) := by
  rw [w64_id (by omega) (by omega)]
  rw [Int.tmod_eq_emod_of_nonneg (by omega)]
  norm_cast
theorem F14_L1_eq (nl : Bool) (hl : l.length ≤ 210) : ∀ (r j : Nat) (b : Bool) (acc : List AV) (m : Nat), j + r = l.length → r < m → acc.length ≤ 3 * j →
    F14_L1 (k + 3) (l.map encP) c m j b acc = some (bif r == 0 then b else false, acc ++ out l c r j) := by
  intro r
  induction r with
  | zero =>
    intro j b acc m hj hm ha
    cases m with
    | zero => omega
    | succ m =>
      unfold F14_L1
      have : ¬ ((j : Int) < (l.length : Int)) := by omega
      simp [this, out]
  | succ r ih =>
    intro j b acc m hj hm ha
    cases m with
    | zero => omega
    | succ m =>
      have hjl : j < l.length := by omega
      have h1 : ((j : Int) < (l.length : Int)) := by omega
      have h2 : decide ((acc.length + 1 + 1) * (16 + 1) ≤ 2 ^ 36) = true := room_ok (by omega) (by omega) (by omega)
      have h3 : decide ((acc.length + 1 + 2 + 1) * (16 + 1) ≤ 2 ^ 36) = true := room_ok (by omega) (by omega) (by omega)
      have h4 : ((j + 1) % l.length : Nat) < l.length := Nat.mod_lt _ (by omega)
      have h5 : ¬ ((l.length : Int) = 0) := by omega
      have h6 : w64 ((j : Int) + 1) = ((j + 1 : Nat) : Int) := by rw [w64_id (by omega) (by omega)]; omega
      have h9 : decide (0 ≤ (((j + 1) % l.length : Nat) : Int) ∧ (((j + 1) % l.length : Nat) : Int) < (l.length : Int)) = true := decide_eq_true ⟨by omega, by omega⟩
      have h10 : decide (0 ≤ (j : Int) ∧ (j : Int) < (l.length : Int)) = true := decide_eq_true ⟨by omega, by omega⟩
      have hn := nxt_eq hjl hl
      unfold F14_L1
      simp only [List.length_map, h1, decide_true, cond_true, asrt_true, okP, Int.toNat_natCast, hjl, h2, h10, w_len hl (by omega), eI0, eI1]
      by_cases hr : r = 0
      · have h7 : ((j : Int) == (l.length : Int) - 1) = true := by simp; omega
        rw [h7, cond_true]
        cases c with
        | false =>
          rw [cond_false]
          simp [out, hr, encP, pt]
        | true =>
          rw [cond_true]
          simp only [h5, decide_false, cond_false, hn, Int.toNat_natCast, h4, decide_true, asrt_true]
          simp only [h9, asrt_true, F56_eq, Option.bind_some]
          simp only [len1, h3, asrt_true, h6]
          refine (ih (j + 1) _ _ m (by omega) (by omega) ?_).trans ?_
          · rw [len2, len1]; omega
          · simp [out, hr, seg, encP, pt]
      · have h7 : ((j : Int) == (l.length : Int) - 1) = false := by simp; omega
        rw [h7, cond_false]
        simp only [h5, decide_false, cond_false, hn, Int.toNat_natCast, h4, decide_true, asrt_true]
        simp only [h9, asrt_true, F56_eq, Option.bind_some]
        simp only [len1, h3, asrt_true, h6]
        have h8 : (r == 0 && !c) = false := by simp [hr]
        refine (ih (j + 1) _ _ m (by omega) (by omega) ?_).trans ?_
        · rw [len2, len1]; omega
        · simp [out, hr, h8, seg, encP, pt]

theorem F87_L1_eq (nl : Bool) (hl : l.length ≤ 210) : ∀ (r j m : Nat), j + r = l.length → r < m →
    ((l.drop j).all plc = true → F87_L1 (k + 2) (l.map encP) m j = some (.inr ())) ∧ ((l.drop j).all plc = false → ∃ i : Nat, F87_L1 (k + 2) (l.map encP) m j = some (.inl (i : Int))) := by
  intro r
  induction r with
  | zero =>
    intro j m hj hm
    cases m with
    | zero => omega
    | succ m =>
      have h0 : l.drop j = [] := List.drop_of_length_le (by omega)
      have h1 : ¬ ((j : Int) < (l.length : Int)) := by omega
      rw [h0]
      refine ⟨fun _ => ?_, fun h => by simp at h⟩
      unfold F87_L1
      simp [h1]
  | succ r ih =>
    intro j m hj hm
    cases m with
    | zero => omega
    | succ m =>
      have hjl : j < l.length := by omega
      have h1 : decide ((j : Int) < (l.length : Int)) = true := decide_eq_true (by omega)
      have h10 : decide (0 ≤ (j : Int) ∧ (j : Int) < (l.length : Int)) = true := decide_eq_true ⟨by omega, by omega⟩
      have h6 : w64 ((j : Int) + 1) = ((j + 1 : Nat) : Int) := by rw [w64_id (by omega) (by omega)]; omega
      have hd : l.drop j = l.getD j (0, 0) :: l.drop (j + 1) := by rw [List.drop_eq_getElem_cons hjl, List.getD_eq_getElem?_getD, List.getElem?_eq_getElem hjl]; rfl
      have hs : F87_L1 (k + 2) (l.map encP) (m + 1) j = bif !plc (l.getD j (0, 0)) then some (.inl (j : Int)) else F87_L1 (k + 2) (l.map encP) m ((j + 1 : Nat) : Int) := by
        rw [F87_L1]
        simp only [List.length_map, h1, cond_true, asrt_true, okP, Int.toNat_natCast, decide_eq_true hjl, h10, eI0, eI1, F54_eq, Option.bind_some, h6]
      rw [hd, List.all_cons, hs]
      cases hp : plc (l.getD j (0, 0)) with
      | true => exact ih (j + 1) m (by omega) (by omega)
      | false => exact ⟨fun h => by simp at h, fun _ => ⟨j, rfl⟩⟩
theorem F53_eq (nl : Bool) (hl : l.length ≤ 210) (hk : 210 ≤ k) : F53 (k + 4) nl (l.map encP) = some (!l.all plc) := by
  obtain ⟨h1, h2⟩ := F87_L1_eq (k := k) (l := l) nl hl l.length 0 (k + 2) (by omega) (by omega)
  rw [List.drop_zero] at h1 h2
  unfold F53 F87
  simp only [cleanP, asrt_true]
  cases hp : l.all plc with
  | true =>
    have h3 := h1 hp
    rw [show ((0 : Nat) : Int) = 0 from rfl] at h3
    rw [h3]; rfl
  | false =>
    obtain ⟨i, h3⟩ := h2 hp
    rw [show ((0 : Nat) : Int) = 0 from rfl] at h3
    rw [h3]
    have : (0 : Int) ≤ (i : Int) := by omega
    simp [this]
theorem F15_L1_eq (nl : Bool) (hl : l.length ≤ 210) : ∀ (r j : Nat) (b : Bool) (acc : List AV) (m : Nat), j + r = l.length → r < m → acc.length ≤ 3 * j →
    F15_L1 (k + 3) (l.map encP) m j b acc = some (bif (l.drop j).all plc then .inr (bif r == 0 then b else false, acc ++ out l true r j) else .inl ()) := by
  intro r
  induction r with
  | zero =>
    intro j b acc m hj hm ha
    cases m with
    | zero => omega
    | succ m =>
      have h0 : l.drop j = [] := List.drop_of_length_le (by omega)
      have : ¬ ((j : Int) < (l.length : Int)) := by omega
      unfold F15_L1
      simp [this, out, h0]
  | succ r ih =>
    intro j b acc m hj hm ha
    cases m with
    | zero => omega
    | succ m =>
      have hjl : j < l.length := by omega
      have h1 : decide ((j : Int) < (l.length : Int)) = true := decide_eq_true (by omega)
      have h2 : decide ((acc.length + 1 + 1) * (16 + 1) ≤ 2 ^ 36) = true := room_ok (by omega) (by omega) (by omega)
      have h3 : decide ((acc.length + 1 + 2 + 1) * (16 + 1) ≤ 2 ^ 36) = true := room_ok (by omega) (by omega) (by omega)
      have h4 : ((j + 1) % l.length : Nat) < l.length := Nat.mod_lt _ (by omega)
      have h5 : decide ((l.length : Int) = 0) = false := decide_eq_false (by omega)
      have h6 : w64 ((j : Int) + 1) = ((j + 1 : Nat) : Int) := by rw [w64_id (by omega) (by omega)]; omega
      have h7 : w64 ((l.length : Int) - 1 + 1) = (l.length : Int) := by rw [w64_id (by omega) (by omega)]; omega
      have h9 : decide (0 ≤ (((j + 1) % l.length : Nat) : Int) ∧ (((j + 1) % l.length : Nat) : Int) < (l.length : Int)) = true := decide_eq_true ⟨by omega, by omega⟩
      have h10 : decide (0 ≤ (j : Int) ∧ (j : Int) < (l.length : Int)) = true := decide_eq_true ⟨by omega, by omega⟩
      have hd : l.drop j = l.getD j (0, 0) :: l.drop (j + 1) := by rw [List.drop_eq_getElem_cons hjl, List.getD_eq_getElem?_getD, List.getElem?_eq_getElem hjl]; rfl
      have hn : ((j + 1 : Nat) : Int).tmod (l.length : Int) = (((j + 1) % l.length : Nat) : Int) := by rw [← h6]; exact nxt_eq hjl hl
      rw [F15_L1]
      simp only [List.length_map, h1, cond_true, asrt_true, okP, Int.toNat_natCast, decide_eq_true hjl, h2, h10, w_len hl (by omega), eI0, eI1, F57_eq, Option.bind_some, h7]
      rw [hd, List.all_cons]
      cases hp : plc (l.getD j (0, 0)) with
      | false => rfl
      | true =>
        simp only [Bool.true_and, cond_true, h5, cond_false, h6, hn, Int.toNat_natCast, decide_eq_true h4, asrt_true, h9, F56_eq, Option.bind_some, len1, h3]
        refine (ih (j + 1) _ _ m (by omega) (by omega) ?_).trans ?_
        · rw [len2, len1]; omega
        · simp [out, seg, encP, pt]
theorem F15_L2_eq (nl : Bool) (hl : l.length ≤ 210) : ∀ (r j : Nat) (b : Bool) (acc : List AV) (m : Nat), j + r = l.length → r < m → acc.length ≤ 3 * j →
    F15_L2 (k + 3) (l.map encP) m j b acc = some (bif (l.drop j).all plc then .inr (bif r == 0 then b else false, acc ++ out l false r j) else .inl ()) := by
  intro r
  induction r with
  | zero =>
    intro j b acc m hj hm ha
    cases m with
    | zero => omega
    | succ m =>
      have h0 : l.drop j = [] := List.drop_of_length_le (by omega)
      have : ¬ ((j : Int) < (l.length : Int)) := by omega
      unfold F15_L2
      simp [this, out, h0]
  | succ r ih =>
    intro j b acc m hj hm ha
    cases m with
    | zero => omega
    | succ m =>
      have hjl : j < l.length := by omega
      have h1 : decide ((j : Int) < (l.length : Int)) = true := decide_eq_true (by omega)
      have h2 : decide ((acc.length + 1 + 1) * (16 + 1) ≤ 2 ^ 36) = true := room_ok (by omega) (by omega) (by omega)
      have h3 : decide ((acc.length + 1 + 2 + 1) * (16 + 1) ≤ 2 ^ 36) = true := room_ok (by omega) (by omega) (by omega)
      have h4 : ((j + 1) % l.length : Nat) < l.length := Nat.mod_lt _ (by omega)
      have h5 : decide ((l.length : Int) = 0) = false := decide_eq_false (by omega)
      have h6 : w64 ((j : Int) + 1) = ((j + 1 : Nat) : Int) := by rw [w64_id (by omega) (by omega)]; omega
      have h9 : decide (0 ≤ (((j + 1) % l.length : Nat) : Int) ∧ (((j + 1) % l.length : Nat) : Int) < (l.length : Int)) = true := decide_eq_true ⟨by omega, by omega⟩
      have h10 : decide (0 ≤ (j : Int) ∧ (j : Int) < (l.length : Int)) = true := decide_eq_true ⟨by omega, by omega⟩
      have hd : l.drop j = l.getD j (0, 0) :: l.drop (j + 1) := by rw [List.drop_eq_getElem_cons hjl, List.getD_eq_getElem?_getD, List.getElem?_eq_getElem hjl]; rfl
      have hn : ((j + 1 : Nat) : Int).tmod (l.length : Int) = (((j + 1) % l.length : Nat) : Int) := by rw [← h6]; exact nxt_eq hjl hl
      rw [F15_L2]
      simp only [List.length_map, h1, cond_true, asrt_true, okP, Int.toNat_natCast, decide_eq_true hjl, h2, h10, w_len hl (by omega), eI0, eI1, F57_eq, Option.bind_some]
      rw [hd, List.all_cons]
      cases hp : plc (l.getD j (0, 0)) with
      | false => rfl
      | true =>
        by_cases hr : r = 0
        · have h8 : decide ((j : Int) < (l.length : Int) - 1) = false := decide_eq_false (by omega)
          simp only [Bool.true_and, cond_true, h8, cond_false, h6]
          refine (ih (j + 1) _ _ m (by omega) (by omega) ?_).trans ?_
          · rw [len1]; omega
          · simp [out, hr, encP, pt]
        · have h8 : decide ((j : Int) < (l.length : Int) - 1) = true := decide_eq_true (by omega)
          simp only [Bool.true_and, cond_true, h8, h5, cond_false, h6, hn, Int.toNat_natCast, decide_eq_true h4, asrt_true, h9, F56_eq, Option.bind_some, len1, h3]
          have h11 : (r == 0) = false := by simp [hr]
          refine (ih (j + 1) _ _ m (by omega) (by omega) ?_).trans ?_
          · rw [len2, len1]; omega
          · simp [out, hr, h11, seg, encP, pt]

theorem out_map : ∀ r j, ∃ q : List (Int × Int), out l c r j = q.map encP ∧ q.length ≤ 3 * r := by
  intro r
  induction r with
  | zero => exact fun j => ⟨[], rfl, by simp⟩
  | succ r ih =>
    intro j
    obtain ⟨q, hq, hl⟩ := ih (j + 1)
    unfold out
    cases hb : (r == 0 && !c) with
    | true => exact ⟨[pt l j], rfl, by simp; omega⟩
    | false =>
      rw [cond_false, hq]
      refine ⟨pt l j :: (_, _) :: (_, _) :: q, rfl, ?_⟩
      simp only [List.length_cons]; omega
/-- Both sides come to the same. -/
theorem lines_eq (nl : Bool) (hl : l.length ≤ 210) (hk : 215 ≤ k) : ∃ (b cc : Bool) (e : Int) (q : List (Int × Int)), F14 (k + 5) nl (l.map encP) c = some (b, q.map encP, cc, e) ∧ F15 (k + 5) nl (l.map encP) c = some (b, q.map encP, cc, e) ∧ q.length ≤ 1000 := by
  obtain ⟨q, hq, hql⟩ := out_map (l := l) (c := c) l.length 0
  have hz : ((0 : Nat) : Int) = 0 := rfl
  have h14 := F14_L1_eq (k := k + 1) (l := l) (c := c) nl hl l.length 0 true [] (k + 4) (by omega) (by omega) (by simp)
  rw [hz, hq, List.nil_append] at h14
  have h53 := F53_eq (k := k) (l := l) nl hl (by omega : 210 ≤ k)
  by_cases hs : l.length < 1
  · refine ⟨true, false, 2, [], ?_, ?_, by simp⟩
    · have h1 : decide ((l.length : Int) < 1) = true := decide_eq_true (by omega)
      rw [F14]
      simp only [List.length_map, h1, cond_true]
      cases c <;> rfl
    · have h1 : decide ((l.length : Int) < 1) = true := decide_eq_true (by omega)
      rw [F15]
      simp only [List.length_map, h1, cond_true]
      cases c <;> rfl
  · have hs1 : decide ((l.length : Int) < 1) = false := decide_eq_false (by omega)
    have hne : (l.length == 0) = false := beq_eq_false_iff_ne.2 (by omega)
    rw [hne, cond_false] at h14
    have hw := w_len hl (by omega)
    cases hc : c with
    | true =>
      subst hc
      have h15 := F15_L1_eq (k := k + 1) (l := l) nl hl l.length 0 true [] (k + 4) (by omega) (by omega) (by simp)
      rw [hz, hq, List.nil_append, List.drop_zero, hne, cond_false] at h15
      have h7 : w64 ((l.length : Int) - 1 + 1) = (l.length : Int) := by rw [w64_id (by omega) (by omega)]; omega
      by_cases ht : 200 < l.length
      · have h2 : decide (200 < (l.length : Int)) = true := decide_eq_true (by omega)
        refine ⟨true, false, 2, [], ?_, ?_, by simp⟩
        · rw [F14]
          simp only [List.length_map, hs1, h2, cond_true, cond_false]; rfl
        · rw [F15]
          simp only [List.length_map, hs1, hw, h7, h2, cond_true, cond_false]; rfl
      · have h2 : decide (200 < (l.length : Int)) = false := decide_eq_false (by omega)
        cases hp : l.all plc with
        | true =>
          rw [hp] at h53 h15
          refine ⟨false, true, 0, q, ?_, ?_, by omega⟩
          · rw [F14]
            simp only [List.length_map, hs1, h2, cond_true, cond_false, h53, Option.bind_some, cleanP, asrt_true, Bool.not_true, h14]
          · rw [F15]
            simp only [List.length_map, hs1, hw, h7, h2, cond_true, cond_false, h15, Option.bind_some, Sum.elim_inr, cleanP, asrt_true]
        | false =>
          rw [hp] at h53 h15
          refine ⟨true, false, 2, [], ?_, ?_, by simp⟩
          · rw [F14]
            simp only [List.length_map, hs1, h2, cond_true, cond_false, h53, Option.bind_some, cleanP, asrt_true, Bool.not_false]; rfl
          · rw [F15]
            simp only [List.length_map, hs1, hw, h7, h2, cond_true, cond_false, h15, Option.bind_some, Sum.elim_inl]; rfl
    | false =>
      subst hc
      have h15 := F15_L2_eq (k := k + 1) (l := l) nl hl l.length 0 true [] (k + 4) (by omega) (by omega) (by simp)
      rw [hz, hq, List.nil_append, List.drop_zero, hne, cond_false] at h15
      by_cases ht : 201 < l.length
      · have h2 : decide (201 < (l.length : Int)) = true := decide_eq_true (by omega)
        have h2' : decide (200 < (l.length : Int) - 1) = true := decide_eq_true (by omega)
        refine ⟨true, false, 2, [], ?_, ?_, by simp⟩
        · rw [F14]
          simp only [List.length_map, hs1, h2, cond_true, cond_false]; rfl
        · rw [F15]
          simp only [List.length_map, hs1, hw, h2', cond_true, cond_false]; rfl
      · have h2 : decide (201 < (l.length : Int)) = false := decide_eq_false (by omega)
        have h2' : decide (200 < (l.length : Int) - 1) = false := decide_eq_false (by omega)
        cases hp : l.all plc with
        | true =>
          rw [hp] at h53 h15
          refine ⟨false, false, 0, q, ?_, ?_, by omega⟩
          · rw [F14]
            simp only [List.length_map, hs1, h2, cond_true, cond_false, h53, Option.bind_some, cleanP, asrt_true, Bool.not_true, h14]
          · rw [F15]
            simp only [List.length_map, hs1, hw, h2', cond_true, cond_false, h15, Option.bind_some, Sum.elim_inr, cleanP, asrt_true]
        | false =>
          rw [hp] at h53 h15
          refine ⟨true, false, 2, [], ?_, ?_, by simp⟩
          · rw [F14]
            simp only [List.length_map, hs1, h2, cond_true, cond_false, h53, Option.bind_some, cleanP, asrt_true, Bool.not_false]; rfl
          · rw [F15]
            simp only [List.length_map, hs1, hw, h2', cond_true, cond_false, h15, Option.bind_some, Sum.elim_inl]; rfl
theorem F28_L1_eq (n1 n2 : Bool) (hl : l.length ≤ 1000) : ∀ (r j m : Nat), j + r = l.length → r < m → F28_L1 k (l.map encP) (l.map encP) m j = some (.inr ()) := by
  intro r
  induction r with
  | zero =>
    intro j m hj hm
    cases m with
    | zero => omega
    | succ m =>
      have : ¬ ((j : Int) < (l.length : Int)) := by omega
      rw [F28_L1]
      simp [this]
  | succ r ih =>
    intro j m hj hm
    cases m with
    | zero => omega
    | succ m =>
      have hjl : j < l.length := by omega
      have h1 : decide ((j : Int) < (l.length : Int)) = true := decide_eq_true (by omega)
      have h6 : w64 ((j : Int) + 1) = ((j + 1 : Nat) : Int) := by rw [w64_id (by omega) (by omega)]; omega
      have h10 : decide (0 ≤ (j : Int) ∧ (j : Int) < (l.length : Int)) = true := decide_eq_true ⟨by omega, by omega⟩
      rw [F28_L1]
      simp only [List.length_map, h1, cond_true, asrt_true, okP, Int.toNat_natCast, decide_eq_true hjl, h10, eI0, eI1, beq_self_eq_true, Bool.and_self, Bool.and_true, h6]
      exact ih (j + 1) m (by omega) (by omega)
theorem F16_eq (n1 n2 : Bool) (hl : l.length ≤ 1000) (hk : 1010 ≤ k) : F16 (k + 2) n1 (l.map encP) c n2 (l.map encP) c = some true := by
  have h := F28_L1_eq (k := k) (l := l) n1 n2 hl l.length 0 k (by omega) (by omega)
  rw [show ((0 : Nat) : Int) = 0 from rfl] at h
  unfold F16 F28
  simp [h, cleanP]

/-- The law, plainly. -/
theorem pathsLines_plain (nl : Bool) (l : List (Int × Int)) (c : Bool) : F3 2001 nl (l.map encP) c = some true := by
  have hA : F13 2000 = some true := awake_ok
  by_cases hl : l.length ≤ 210
  · have h0 : decide (210 < (l.length : Int)) = false := decide_eq_false (by omega)
    obtain ⟨b, cc, e, q, h1, h2, hq⟩ := lines_eq (l := l) (c := c) (k := 1995) nl hl (by omega)
    have h3 := F16_eq (k := 1998) (l := q) (c := cc) b b hq (by omega)
    rw [show (2001 : Nat) = 2000 + 1 from rfl, F3]
    simp only [List.length_map, h0, cond_false, h1, h2, Option.bind_some, cleanP, asrt_true, h3, cond_true, beq_self_eq_true, hA]
  · have h0 : decide (210 < (l.length : Int)) = true := decide_eq_true (by omega)
    rw [show (2001 : Nat) = 2000 + 1 from rfl, F3]
    simp only [List.length_map, h0, cond_true, hA, Option.bind_some]
end Go.Proofs.YtjfpcgkgdajcfaaGreatDoor
