/-
  PathsPoints, plainly: the printed functions answer true; no condition but the sizes named.
-/
import Derived.Test.YtjfpcgkgdajcfaaGreatDoorEvPd
import Derived.Test.YtjfpcgkgdajcfaaGreatDoorR1
import Derived.Test.YtjfpcgkgdajcfaaGreatDoorPureA
open Go Go.Ev
namespace Go.Proofs.YtjfpcgkgdajcfaaGreatDoor
set_option linter.unusedSimpArgs false
set_option linter.unusedVariables false
/-- Is a point placed? -/
def plc (p : Int × Int) : Bool := decide (-268435455 ≤ p.1 ∧ p.1 ≤ 268435455 ∧ -268435455 ≤ p.2 ∧ p.2 ≤ 268435455)
theorem F55_eq (k : Nat) (x y : Int) : F55 (k + 1) x y = some (plc (x, y)) := by
  have h : F55 (k + 1) x y = some (decide (-268435455 ≤ mn2 x y) && decide (mx2 x y ≤ 268435455)) := by
    unfold F55
    dsimp only
    cases decide (-268435455 ≤ mn2 x y) <;> rfl
  rw [h]
  congr 1
  rw [Bool.eq_iff_iff]
  unfold plc mn2 mx2
  simp only [Bool.and_eq_true, decide_eq_true_eq]
  split <;> split <;> omega
theorem F54_eq (k : Nat) (x y : Int) : F54 (k + 2) x y = some (!plc (x, y)) := by
  unfold F54
  simp only [F55_eq, Option.bind_some]
theorem F57_eq (k : Nat) (x y : Int) : F57 (k + 1) x y = some (plc (x, y)) := by
  have h : F57 (k + 1) x y = some (decide (-268435455 ≤ x) && (decide (x ≤ 268435455) && (decide (-268435455 ≤ y) && decide (y ≤ 268435455)))) := by
    unfold F57
    dsimp only
    cases decide (-268435455 ≤ x) <;> cases decide (x ≤ 268435455) <;> cases decide (-268435455 ≤ y) <;> rfl
  rw [h]
  congr 1
  rw [Bool.eq_iff_iff]
  unfold plc
  simp only [Bool.and_eq_true, decide_eq_true_eq]

section
variable {l : List (Int × Int)} {c : Bool} {k : Nat}
theorem F87_L1_eq (nl : Bool) (hl : l.length ≤ 610) : ∀ (r j m : Nat), j + r = l.length → r < m →
    ((l.drop j).all plc = true → F87_L1 (k + 2) (l.map encP) m j = some (.inr ())) ∧ ((l.drop j).all plc = false → ∃ i : Nat, F87_L1 (k + 2) (l.map encP) m j = some (.inl (i : Int))) := by
  intro r
  induction r with
  | zero =>
    intro j m hj hm
    cases m with
    | zero => omega
    | succ m =>
      have h0 : l.drop j = [] := List.drop_of_length_le (by omega)
      have h1 : ¬ ((j : Int) < (l.length : Int)) := by omega
      rw [h0]
      refine ⟨fun _ => ?_, fun h => by simp at h⟩
      unfold F87_L1
      simp [h1]
  | succ r ih =>
    intro j m hj hm
    cases m with
    | zero => omega
    | succ m =>
      have hjl : j < l.length := by omega
      have h1 : decide ((j : Int) < (l.length : Int)) = true := decide_eq_true (by omega)
      have h10 : decide (0 ≤ (j : Int) ∧ (j : Int) < (l.length : Int)) = true := decide_eq_true ⟨by omega, by omega⟩
      have h6 : w64 ((j : Int) + 1) = ((j + 1 : Nat) : Int) := by rw [w64_id (by omega) (by omega)]; omega
      have hd : l.drop j = l.getD j (0, 0) :: l.drop (j + 1) := by rw [List.drop_eq_getElem_cons hjl, List.getD_eq_getElem?_getD, List.getElem?_eq_getElem hjl]; rfl
      have hs : F87_L1 (k + 2) (l.map encP) (m + 1) j = bif !plc (l.getD j (0, 0)) then some (.inl (j : Int)) else F87_L1 (k + 2) (l.map encP) m ((j + 1 : Nat) : Int) := by
        rw [F87_L1]
        simp only [List.length_map, h1, cond_true, asrt_true, okP, Int.toNat_natCast, decide_eq_true hjl, h10, eI0, eI1, F54_eq, Option.bind_some, h6]
      rw [hd, List.all_cons, hs]
      cases hp : plc (l.getD j (0, 0)) with
      | true => exact ih (j + 1) m (by omega) (by omega)
      | false => exact ⟨fun h => by simp at h, fun _ => ⟨j, rfl⟩⟩
theorem F53_eq (nl : Bool) (hl : l.length ≤ 610) (hk : 620 ≤ k) : F53 (k + 4) nl (l.map encP) = some (!l.all plc) := by
  obtain ⟨h1, h2⟩ := F87_L1_eq (k := k) (l := l) nl hl l.length 0 (k + 2) (by omega) (by omega)
  rw [List.drop_zero] at h1 h2
  unfold F53 F87
  simp only [cleanP, asrt_true]
  cases hp : l.all plc with
  | true =>
    have h3 := h1 hp
    rw [show ((0 : Nat) : Int) = 0 from rfl] at h3
    rw [h3]; rfl
  | false =>
    obtain ⟨i, h3⟩ := h2 hp
    rw [show ((0 : Nat) : Int) = 0 from rfl] at h3
    rw [h3]
    have : (0 : Int) ≤ (i : Int) := by omega
    simp [this]
theorem F28_L1_eq (n1 n2 : Bool) (hl : l.length ≤ 1000) : ∀ (r j m : Nat), j + r = l.length → r < m → F28_L1 k (l.map encP) (l.map encP) m j = some (.inr ()) := by
  intro r
  induction r with
  | zero =>
    intro j m hj hm
    cases m with
    | zero => omega
    | succ m =>
      have : ¬ ((j : Int) < (l.length : Int)) := by omega
      rw [F28_L1]
      simp [this]
  | succ r ih =>
    intro j m hj hm
    cases m with
    | zero => omega
    | succ m =>
      have hjl : j < l.length := by omega
      have h1 : decide ((j : Int) < (l.length : Int)) = true := decide_eq_true (by omega)
      have h6 : w64 ((j : Int) + 1) = ((j + 1 : Nat) : Int) := by rw [w64_id (by omega) (by omega)]; omega
      have h10 : decide (0 ≤ (j : Int) ∧ (j : Int) < (l.length : Int)) = true := decide_eq_true ⟨by omega, by omega⟩
      rw [F28_L1]
      simp only [List.length_map, h1, cond_true, asrt_true, okP, Int.toNat_natCast, decide_eq_true hjl, h10, eI0, eI1, beq_self_eq_true, Bool.and_self, Bool.and_true, h6]
      exact ih (j + 1) m (by omega) (by omega)
theorem F16_eq (n1 n2 : Bool) (hl : l.length ≤ 1000) (hk : 1010 ≤ k) : F16 (k + 2) n1 (l.map encP) c n2 (l.map encP) c = some true := by
  have h := F28_L1_eq (k := k) (l := l) n1 n2 hl l.length 0 k (by omega) (by omega)
  rw [show ((0 : Nat) : Int) = 0 from rfl] at h
  unfold F16 F28
  simp [h, cleanP]


theorem tm3 (n : Nat) : ((n : Int)).tmod 3 = ((n % 3 : Nat) : Int) := by rw [Int.tmod_eq_emod_of_nonneg (by omega)]; omega
theorem td3 {n : Nat} (h : n ≤ 610) : w64 (((n : Int)).tdiv 3) = ((n / 3 : Nat) : Int) := by
  rw [Int.tdiv_eq_ediv_of_nonneg (by omega), w64_id (by omega) (by omega)]; omega
/-- Is a path valid? -/
def vld (l : List (Int × Int)) (c : Bool) : Bool := (bif c then decide (3 ≤ l.length) && decide (l.length % 3 = 0) else decide (l.length % 3 = 1)) && decide (l.length ≤ 601) && l.all plc
theorem F29_eq (nl : Bool) (hl : l.length ≤ 605) (hk : 620 ≤ k) : F29 (k + 5) nl (l.map encP) c = some (vld l c) := by
  have h53 := F53_eq (k := k) (l := l) nl (by omega) hk
  unfold F29 F61
  simp only [List.length_map, tm3, td3 (show l.length ≤ 610 by omega), cleanP, asrt_true, Option.bind_some, h53]
  unfold vld
  cases c with
  | true =>
    simp only [cond_true]
    by_cases h1 : l.length % 3 = 0
    · have e1 : (((l.length % 3 : Nat) : Int) != 0) = false := by simp [h1]
      rw [e1, cond_false]
      by_cases h2 : 3 ≤ l.length
      · have e2 : decide ((l.length : Int) < 3) = false := decide_eq_false (by omega)
        rw [e2, cond_false]
        by_cases h3 : l.length ≤ 601
        · have e3 : decide ((200 : Int) < ((l.length / 3 : Nat) : Int)) = false := decide_eq_false (by omega)
          rw [e3, cond_false]
          simp [h1, h2, h3]
        · have e3 : decide ((200 : Int) < ((l.length / 3 : Nat) : Int)) = true := decide_eq_true (by omega)
          rw [e3, cond_true]
          simp [h3]
      · have e2 : decide ((l.length : Int) < 3) = true := decide_eq_true (by omega)
        rw [e2, cond_true]
        simp [h2]
    · have e1 : (((l.length % 3 : Nat) : Int) != 0) = true := by
        rw [bne_iff_ne]; omega
      rw [e1, cond_true]
      simp [h1]
  | false =>
    simp only [cond_false]
    by_cases h1 : l.length % 3 = 1
    · have e1 : (((l.length % 3 : Nat) : Int) != 1) = false := by simp [h1]
      rw [e1, cond_false]
      by_cases h3 : l.length ≤ 601
      · have e3 : decide ((200 : Int) < ((l.length / 3 : Nat) : Int)) = false := decide_eq_false (by omega)
        rw [e3, cond_false]
        simp [h1, h3]
      · have e3 : decide ((200 : Int) < ((l.length / 3 : Nat) : Int)) = true := decide_eq_true (by omega)
        rw [e3, cond_true]
        simp [h3]
    · have e1 : (((l.length % 3 : Nat) : Int) != 1) = true := by
        rw [bne_iff_ne]; omega
      rw [e1, cond_true]
      simp [h1]
theorem F21_L1_eq (nl : Bool) (hl : l.length ≤ 610) : ∀ (r j m : Nat), j + r = l.length → r < m →
    ((l.drop j).all plc = true → F21_L1 (k + 1) (l.map encP) m j = some (.inr ())) ∧ ((l.drop j).all plc = false → F21_L1 (k + 1) (l.map encP) m j = some (.inl ())) := by
  intro r
  induction r with
  | zero =>
    intro j m hj hm
    cases m with
    | zero => omega
    | succ m =>
      have h0 : l.drop j = [] := List.drop_of_length_le (by omega)
      have h1 : ¬ ((j : Int) < (l.length : Int)) := by omega
      rw [h0]
      refine ⟨fun _ => ?_, fun h => by simp at h⟩
      unfold F21_L1
      simp [h1]
  | succ r ih =>
    intro j m hj hm
    cases m with
    | zero => omega
    | succ m =>
      have hjl : j < l.length := by omega
      have h1 : decide ((j : Int) < (l.length : Int)) = true := decide_eq_true (by omega)
      have h10 : decide (0 ≤ (j : Int) ∧ (j : Int) < (l.length : Int)) = true := decide_eq_true ⟨by omega, by omega⟩
      have h6 : w64 ((j : Int) + 1) = ((j + 1 : Nat) : Int) := by rw [w64_id (by omega) (by omega)]; omega
      have hd : l.drop j = l.getD j (0, 0) :: l.drop (j + 1) := by rw [List.drop_eq_getElem_cons hjl, List.getD_eq_getElem?_getD, List.getElem?_eq_getElem hjl]; rfl
      have hs : F21_L1 (k + 1) (l.map encP) (m + 1) j = bif plc (l.getD j (0, 0)) then F21_L1 (k + 1) (l.map encP) m ((j + 1 : Nat) : Int) else some (.inl ()) := by
        rw [F21_L1]
        simp only [List.length_map, h1, cond_true, asrt_true, okP, Int.toNat_natCast, decide_eq_true hjl, h10, eI0, eI1, F57_eq, Option.bind_some, h6]
      rw [hd, List.all_cons, hs]
      cases hp : plc (l.getD j (0, 0)) with
      | true => exact ih (j + 1) m (by omega) (by omega)
      | false => exact ⟨fun h => by simp at h, fun _ => rfl⟩
theorem F21_eq (nl : Bool) (hl : l.length ≤ 605) (hk : 620 ≤ k) : F21 (k + 2) nl (l.map encP) c = some (vld l c) := by
  obtain ⟨g1, g2⟩ := F21_L1_eq (k := k) (l := l) nl (by omega) l.length 0 (k + 1) (by omega) (by omega)
  rw [List.drop_zero, show ((0 : Nat) : Int) = 0 from rfl] at g1 g2
  unfold F21
  simp only [List.length_map, tm3]
  unfold vld
  cases c with
  | true =>
    simp only [cond_true]
    by_cases h2 : 3 ≤ l.length
    · have e2 : decide ((l.length : Int) < 3) = false := decide_eq_false (by omega)
      rw [e2, cond_false]
      by_cases h1 : l.length % 3 = 0
      · have e1 : (((l.length % 3 : Nat) : Int) != 0) = false := by simp [h1]
        rw [e1, cond_false]
        by_cases h3 : l.length ≤ 601
        · have e3 : decide ((601 : Int) < (l.length : Int)) = false := decide_eq_false (by omega)
          rw [e3, cond_false]
          cases hp : l.all plc with
          | true => rw [g1 hp]; simp [h1, h2, h3]
          | false => rw [g2 hp]; simp
        · have e3 : decide ((601 : Int) < (l.length : Int)) = true := decide_eq_true (by omega)
          rw [e3, cond_true]
          simp [h3]
      · have e1 : (((l.length % 3 : Nat) : Int) != 0) = true := by
          rw [bne_iff_ne]; omega
        rw [e1, cond_true]
        simp [h1]
    · have e2 : decide ((l.length : Int) < 3) = true := decide_eq_true (by omega)
      rw [e2, cond_true]
      simp [h2]
  | false =>
    simp only [cond_false]
    by_cases h1 : l.length % 3 = 1
    · have e1 : (((l.length % 3 : Nat) : Int) != 1) = false := by simp [h1]
      rw [e1, cond_false]
      by_cases h3 : l.length ≤ 601
      · have e3 : decide ((601 : Int) < (l.length : Int)) = false := decide_eq_false (by omega)
        rw [e3, cond_false]
        cases hp : l.all plc with
        | true => rw [g1 hp]; simp [h1, h3]
        | false => rw [g2 hp]; simp
      · have e3 : decide ((601 : Int) < (l.length : Int)) = true := decide_eq_true (by omega)
        rw [e3, cond_true]
        simp [h3]
    · have e1 : (((l.length % 3 : Nat) : Int) != 1) = true := by
        rw [bne_iff_ne]; omega
      rw [e1, cond_true]
      simp [h1]
theorem F25_eq (nl : Bool) (hl : l.length ≤ 605) (hk : 620 ≤ k) : F25 (k + 6) nl (l.map encP) c = some (bif vld l c then (((l.length / 3 : Nat) : Int), 0) else (0, 2)) := by
  unfold F25
  simp only [F29_eq (k := k) nl hl hk, Option.bind_some, cleanP, asrt_true]
  unfold F61
  simp only [List.length_map, td3 (show l.length ≤ 610 by omega), Option.bind_some]
  cases vld l c <;> rfl
theorem F26_eq (nl : Bool) (hl : l.length ≤ 605) (hk : 620 ≤ k) : F26 (k + 6) nl (l.map encP) c = some (bif vld l c then (((l.length / 3 : Nat) : Int), 0) else (0, 2)) := by
  unfold F26
  simp only [F21_eq (k := k + 3) nl hl (by omega), Option.bind_some, cleanP, asrt_true]
  unfold F61
  simp only [List.length_map, td3 (show l.length ≤ 610 by omega), Option.bind_some]
  cases vld l c <;> rfl
theorem F23_L1_eq (hl : l.length ≤ 610) : ∀ (m j : Nat) (b : Bool) (acc : List (Int × Int)), l.length - j < m → acc.length ≤ j → j ≤ l.length + 2 →
    ∃ (b' : Bool) (q : List (Int × Int)), F23_L1 k (l.map encP) m b (acc.map encP) j = some (b', q.map encP) ∧ q.length ≤ l.length + 2 := by
  intro m
  induction m with
  | zero => intro j b acc h; omega
  | succ m ih =>
    intro j b acc h ha hj
    rw [F23_L1]
    by_cases hjl : j < l.length
    · have h1 : decide ((j : Int) < (l.length : Int)) = true := decide_eq_true (by omega)
      have h10 : decide (0 ≤ (j : Int) ∧ (j : Int) < (l.length : Int)) = true := decide_eq_true ⟨by omega, by omega⟩
      have h6 : w64 ((j : Int) + 3) = ((j + 3 : Nat) : Int) := by rw [w64_id (by omega) (by omega)]; omega
      have h9 := room_ok (n := acc.length) (a := 1) (b := 16) (by omega) (by omega) (by omega)
      have e : acc.map encP ++ [.agg [.int .i64 (l.getD j (0, 0)).1, .int .i64 (l.getD j (0, 0)).2]] = (acc ++ [l.getD j (0, 0)]).map encP := by rw [List.map_append]; rfl
      simp only [List.length_map, h1, cond_true, asrt_true, okP, Int.toNat_natCast, decide_eq_true hjl, h10, eI0, eI1, h6, h9, e]
      exact ih (j + 3) false _ (by omega) (by rw [List.length_append, List.length_singleton]; omega) (by omega)
    · have h1 : decide ((j : Int) < (l.length : Int)) = false := decide_eq_false (by omega)
      simp only [List.length_map, h1, cond_false]
      exact ⟨b, acc, rfl, by omega⟩
theorem knots_eq (nl : Bool) (hl : l.length ≤ 605) (hk : 620 ≤ k) : ∃ (b : Bool) (q : List (Int × Int)) (e : Int), F23 (k + 6) nl (l.map encP) c = some (b, q.map encP, e) ∧ F27 (k + 6) nl (l.map encP) c = some (b, q.map encP, e) ∧ q.length ≤ 700 := by
  obtain ⟨b, q, h, hq⟩ := F23_L1_eq (k := k + 5) (l := l) (by omega) (k + 5) 0 true [] (by omega) (by simp) (by omega)
  rw [show ((0 : Nat) : Int) = 0 from rfl, List.map_nil] at h
  unfold F23 F27
  simp only [F29_eq (k := k) nl hl hk, F21_eq (k := k + 3) nl hl (by omega), Option.bind_some, cleanP, asrt_true, h]
  cases vld l c with
  | true => exact ⟨b, q, 0, rfl, rfl, by omega⟩
  | false => exact ⟨true, [], 2, rfl, rfl, by simp⟩
theorem box_eq (hl : l.length ≤ 610) : ∀ (r j m : Nat) (a b d e : Int), j + r = l.length → r < m →
    ∃ x : Int × Int × Int × Int, F38_L1 k (l.map encP) m j a b d e = some x := by
  intro r
  induction r with
  | zero =>
    intro j m a b d e hj hm
    cases m with
    | zero => omega
    | succ m =>
      have h1 : ¬ ((j : Int) < (l.length : Int)) := by omega
      unfold F38_L1
      simp [h1]
  | succ r ih =>
    intro j m a b d e hj hm
    cases m with
    | zero => omega
    | succ m =>
      have hjl : j < l.length := by omega
      have h1 : decide ((j : Int) < (l.length : Int)) = true := decide_eq_true (by omega)
      have h10 : decide (0 ≤ (j : Int) ∧ (j : Int) < (l.length : Int)) = true := decide_eq_true ⟨by omega, by omega⟩
      have h6 : w64 ((j : Int) + 1) = ((j + 1 : Nat) : Int) := by rw [w64_id (by omega) (by omega)]; omega
      rw [F38_L1]
      simp only [List.length_map, h1, cond_true, asrt_true, okP, Int.toNat_natCast, decide_eq_true hjl, h10, eI0, eI1, h6]
      exact ih (j + 1) m _ _ _ _ (by omega) (by omega)
theorem vld_pos (h : vld l c = true) : 0 < l.length ∧ l.length ≤ 601 ∧ (c = true → l.length % 3 = 0 ∧ 3 ≤ l.length) ∧ (c = false → l.length % 3 = 1) := by
  unfold vld at h
  cases c <;> simp at h <;> refine ⟨by omega, by omega, fun h => ?_, fun h => ?_⟩ <;> first | omega | (exact absurd h (by simp)) | (exact ⟨by omega, by omega⟩)
theorem box2_eq (nl : Bool) (hl : l.length ≤ 605) (hk : 620 ≤ k) : ∃ x : Int × Int × Int × Int × Int, F38 (k + 6) nl (l.map encP) c = some x ∧ F39 (k + 6) nl (l.map encP) c = some x := by
  unfold F38 F39
  simp only [F29_eq (k := k) nl hl hk, F21_eq (k := k + 3) nl hl (by omega), Option.bind_some, cleanP, asrt_true]
  cases hv : vld l c with
  | false => exact ⟨_, rfl, rfl⟩
  | true =>
    have hp := (vld_pos hv).1
    have h10 : decide (0 ≤ (0 : Int) ∧ (0 : Int) < (l.length : Int)) = true := decide_eq_true ⟨by omega, by omega⟩
    obtain ⟨x, hx⟩ := box_eq (k := k + 5) (l := l) (by omega) l.length 0 (k + 5) (l.getD 0 (0, 0)).1 (l.getD 0 (0, 0)).2 (l.getD 0 (0, 0)).1 (l.getD 0 (0, 0)).2 (by omega) (by omega)
    rw [show ((0 : Nat) : Int) = 0 from rfl] at hx
    simp only [cond_true, List.length_map, h10, asrt_true, okP, decide_eq_true hp, eI0, eI1, hx, Option.bind_some]
    exact ⟨_, rfl, rfl⟩
/-- The place on a path. -/
def M (l : List (Int × Int)) : Int := ((l.length / 3 : Nat) : Int) * 65536
def plI (l : List (Int × Int)) (c : Bool) (a : Int) : Int := bif c then a % M l else mn2 (mx2 a 0) (M l)
theorem w64_sub (a b : Int) : w64 (a - w64 b) = w64 (a - b) := by
  unfold w64 IntKind.wrap
  simp [IntKind.bits, IntKind.signed]
  repeat' split
  all_goals omega
theorem M_eq (hl : l.length ≤ 605) : w64 (((l.length / 3 : Nat) : Int) * 65536) = M l := w64_id (by omega) (by omega)
theorem tm_small {a m : Int} (hm : 0 < m) : (a.tmod m < 0 ∧ a.tmod m = a % m - m ∧ a.tdiv m = a / m + 1) ∨ (0 ≤ a.tmod m ∧ a.tmod m = a % m ∧ a.tdiv m = a / m) := by
  have h1 := Int.emod_lt_of_pos a hm
  have h0 := Int.emod_nonneg a (show m ≠ 0 by omega)
  rw [Int.tmod_eq_emod, Int.tdiv_eq_ediv]
  by_cases h : 0 ≤ a ∨ m ∣ a
  · simp only [h, if_true]
    right; omega
  · simp only [h, if_false]
    left
    have : (m.natAbs : Int) = m := Int.natAbs_of_nonneg (by omega)
    rw [this, Int.sign_eq_one_of_pos hm]
    omega
theorem F77_eq (nl : Bool) (a : Int) (hv : vld l c = true) : F77 (k + 2) nl (l.map encP) c a = some (plI l c a) := by
  obtain ⟨hp, hn, hc, ho⟩ := vld_pos hv
  unfold F77 F61
  simp only [List.length_map, td3 (show l.length ≤ 610 by omega), Option.bind_some, cleanP, asrt_true, M_eq (show l.length ≤ 605 by omega)]
  unfold plI
  cases c with
  | false => rfl
  | true =>
    have hm : 0 < M l := by have := hc rfl; unfold M; omega
    have hm2 : M l ≤ 100000000 := by unfold M; omega
    have h0 : decide (M l = 0) = false := decide_eq_false (by omega)
    simp only [cond_true, h0, cond_false]
    have h1 := Int.emod_lt_of_pos a hm
    have h2 := Int.emod_nonneg a (show M l ≠ 0 by omega)
    congr 1
    rcases tm_small (a := a) hm with ⟨_, h, _⟩ | ⟨_, h, _⟩
    · rw [h, w64_id (by omega) (by omega), show a % M l - M l + M l = a % M l by omega, Int.tmod_eq_emod_of_nonneg h2, Int.emod_eq_of_lt h2 h1]
    · rw [h, w64_id (by omega) (by omega), Int.tmod_eq_emod_of_nonneg (by omega), Int.add_emod_right, Int.emod_eq_of_lt h2 h1]
theorem F79_eq (nl : Bool) (a : Int) (ha : -9223372036854775808 ≤ a) (hb : a ≤ 9223372036854775807) (hv : vld l c = true) : F79 (k + 2) nl (l.map encP) c a = some (plI l c a) := by
  obtain ⟨hp, hn, hc, ho⟩ := vld_pos hv
  unfold F79 F61
  simp only [List.length_map, td3 (show l.length ≤ 610 by omega), Option.bind_some, cleanP, asrt_true, M_eq (show l.length ≤ 605 by omega)]
  unfold plI
  have hM0 : 0 ≤ M l := by unfold M; omega
  cases c with
  | false =>
    simp only [cond_false]
    congr 1
    unfold mx2 mn2
    split <;> split <;> split <;> omega
  | true =>
    have hm : 65536 ≤ M l := by have := hc rfl; unfold M; omega
    have hm2 : M l ≤ 100000000 := by unfold M; omega
    have h0 : decide (M l = 0) = false := decide_eq_false (by omega)
    unfold F88
    simp only [cond_true, h0, cond_false]
    have h1 := Int.emod_lt_of_pos a (show 0 < M l by omega)
    have h2 := Int.emod_nonneg a (show M l ≠ 0 by omega)
    have h3 := Int.mul_ediv_add_emod a (M l)
    have h4 : a / M l * M l = a - a % M l := by rw [Int.mul_comm]; omega
    have h5 : -9223372036854775808 ≤ a / M l := by
      have := Int.ediv_le_ediv (show 0 < M l by omega) ha
      have h7 : -9223372036854775808 ≤ -9223372036854775808 / M l := by
        rw [Int.le_ediv_iff_mul_le (by omega)]
        omega
      omega
    have h6 : a / M l ≤ 9223372036854775800 := by
      have h7 : a / M l < 9223372036854775800 := by
        rw [Int.ediv_lt_iff_lt_mul (by omega)]
        omega
      omega
    have fin : w64 (a - w64 (a / M l * M l)) = a % M l := by
      rw [w64_sub, h4, show a - (a - a % M l) = a % M l by omega, w64_id (by omega) (by omega)]
    rcases tm_small (a := a) (show 0 < M l by omega) with ⟨h, _, h8⟩ | ⟨h, _, h8⟩
    · rw [decide_eq_true h, cond_true, Option.bind_some, h8, w64_id (x := a / M l + 1) (by omega) (by omega), show a / M l + 1 - 1 = a / M l by omega, w64_id (x := a / M l) (by omega) (by omega), fin]
    · rw [decide_eq_false (show ¬ (a.tmod (M l) < 0) by omega), cond_false, Option.bind_some, h8, w64_id (x := a / M l) (by omega) (by omega), fin]
theorem plI_nat (a : Int) (hv : vld l c = true) : ∃ p : Nat, plI l c a = (p : Int) ∧ p ≤ l.length / 3 * 65536 ∧ (c = true → p < l.length / 3 * 65536) := by
  obtain ⟨hp, hn, hc, ho⟩ := vld_pos hv
  have hM0 : 0 ≤ M l := by unfold M; omega
  have hMn : M l = ((l.length / 3 * 65536 : Nat) : Int) := by unfold M; omega
  have key : 0 ≤ plI l c a ∧ plI l c a ≤ M l ∧ (c = true → plI l c a < M l) := by
    unfold plI
    cases c with
    | false =>
      simp only [cond_false]
      unfold mx2 mn2
      refine ⟨?_, ?_, fun h => by simp at h⟩ <;> (split <;> split <;> omega)
    | true =>
      have hm : 0 < M l := by have := hc rfl; unfold M; omega
      have h1 := Int.emod_lt_of_pos a hm
      have h2 := Int.emod_nonneg a (show M l ≠ 0 by omega)
      simp only [cond_true]
      exact ⟨h2, by omega, fun _ => h1⟩
  refine ⟨(plI l c a).toNat, by omega, by omega, fun h => by have := key.2.2 h; omega⟩
theorem inb {x n : Nat} (h : x < n) : decide (0 ≤ (x : Int) ∧ (x : Int) < (n : Int)) = true := decide_eq_true ⟨by omega, by omega⟩
theorem tmn (x n : Nat) : ((x : Int)).tmod (n : Int) = ((x % n : Nat) : Int) := by
  rw [Int.tmod_eq_emod_of_nonneg (by omega)]; rfl
theorem n0 {n : Nat} (h : 0 < n) : decide ((n : Int) = 0) = false := decide_eq_false (by omega)
theorem F92_eq (nl : Bool) (x : Nat) (hp : 0 < l.length) : F92 (k + 1) nl (l.map encP) c (x : Int) = some ((l.getD (x % l.length) (0, 0)).1, (l.getD (x % l.length) (0, 0)).2) := by
  rw [F92]
  have hx : x % l.length < l.length := Nat.mod_lt _ hp
  simp only [List.length_map, n0 hp, cond_false, tmn, inb hx, asrt_true, okP, Int.toNat_natCast, decide_eq_true hx, eI0, eI1]
/-- A segment. -/
def sg (l : List (Int × Int)) (q : Nat) : Int × Int × Int × Int × Int × Int × Int × Int :=
  ((l.getD (3 * q % l.length) (0, 0)).1, (l.getD (3 * q % l.length) (0, 0)).2, (l.getD ((3 * q + 1) % l.length) (0, 0)).1, (l.getD ((3 * q + 1) % l.length) (0, 0)).2,
   (l.getD ((3 * q + 2) % l.length) (0, 0)).1, (l.getD ((3 * q + 2) % l.length) (0, 0)).2, (l.getD ((3 * q + 3) % l.length) (0, 0)).1, (l.getD ((3 * q + 3) % l.length) (0, 0)).2)
theorem w3 {q : Nat} (h : q ≤ 1000) : w64 (3 * (q : Int)) = ((3 * q : Nat) : Int) := by rw [w64_id (by omega) (by omega)]; omega
theorem wa {x : Nat} (i : Nat) (h : x ≤ 10000) (hi : i ≤ 10000) : w64 ((x : Int) + (i : Int)) = ((x + i : Nat) : Int) := by rw [w64_id (by omega) (by omega)]; omega
theorem F65_eq (nl : Bool) (q : Nat) (hq : q ≤ 1000) (hp : 0 < l.length) : F65 (k + 2) nl (l.map encP) c (q : Int) = some (sg l q) := by
  have h1 := wa (x := 3 * q) 1 (by omega) (by omega)
  have h2 := wa (x := 3 * q) 2 (by omega) (by omega)
  have h3 := wa (x := 3 * q) 3 (by omega) (by omega)
  rw [show ((1 : Nat) : Int) = 1 from rfl] at h1
  rw [show ((2 : Nat) : Int) = 2 from rfl] at h2
  rw [show ((3 : Nat) : Int) = 3 from rfl] at h3
  rw [F65]
  simp only [w3 hq, h1, h2, h3, F92_eq (k := k) (c := c) nl _ hp, Option.bind_some, cleanP, asrt_true]
  rfl
theorem F62_eq (nl : Bool) (q : Nat) (hq : q ≤ 1000) (hp : 0 < l.length) : F62 (k + 6) nl (l.map encP) c (q : Int) = some (sg l q) := by
  have h0 := wa (x := 3 * q) 0 (by omega) (by omega)
  have h1 := wa (x := 3 * q) 1 (by omega) (by omega)
  have h2 := wa (x := 3 * q) 2 (by omega) (by omega)
  have h3 := wa (x := 3 * q) 3 (by omega) (by omega)
  rw [show ((0 : Nat) : Int) = 0 from rfl] at h0
  rw [show ((1 : Nat) : Int) = 1 from rfl] at h1
  rw [show ((2 : Nat) : Int) = 2 from rfl] at h2
  rw [show ((3 : Nat) : Int) = 3 from rfl] at h3
  have hf : fuelN 5 (k + 5) = some k := by
    unfold fuelN
    rw [show Nat.ble 5 (k + 5) = true by rw [Nat.ble_eq]; omega, cond_true, Nat.add_sub_cancel]
  rw [F62, hf, Option.bind_some]
  have m0 : (3 * q + 0) % l.length < l.length := Nat.mod_lt _ hp
  have m1 : (3 * q + 1) % l.length < l.length := Nat.mod_lt _ hp
  have m2 : (3 * q + 2) % l.length < l.length := Nat.mod_lt _ hp
  have m3 : (3 * q + 3) % l.length < l.length := Nat.mod_lt _ hp
  simp only [List.length_map, n0 hp, cond_false, w3 hq, h0, h1, h2, h3, tmn, inb m0, inb m1, inb m2, inb m3, asrt_true, okP, Int.toNat_natCast, decide_eq_true m0, decide_eq_true m1, decide_eq_true m2, decide_eq_true m3, eI0, eI1]
  rfl
theorem F56_ex (x : Int) : ∃ v, ∀ k, F56 (k + 2) x 65536 = some v := by
  have h6 : w64 (2 * 65536) = 131072 := by decide
  unfold F56 F88
  simp only [h6]
  cases h : decide ((w64 (w64 (2 * x) + 65536)).tmod 131072 < 0) with
  | true => exact ⟨_, fun _ => rfl⟩
  | false => exact ⟨_, fun _ => rfl⟩
theorem F98_ex (a b d e x : Int) : ∃ v, ∀ k, F98 (k + 3) a b d e x = some v := by
  obtain ⟨v1, h1⟩ := F56_ex (w64 (w64 (d - a) * x))
  obtain ⟨v2, h2⟩ := F56_ex (w64 (w64 (e - b) * x))
  refine ⟨(w64 (a + v1), w64 (b + v2)), fun k => ?_⟩
  rw [F98, h1, Option.bind_some, h2, Option.bind_some]
theorem F78_ex (a1 a2 a3 a4 a5 a6 a7 a8 x : Int) : ∃ v, ∀ k, F78 (k + 4) a1 a2 a3 a4 a5 a6 a7 a8 x = some v := by
  obtain ⟨v1, h1⟩ := F98_ex a1 a2 a3 a4 x
  obtain ⟨v2, h2⟩ := F98_ex a3 a4 a5 a6 x
  obtain ⟨v3, h3⟩ := F98_ex a5 a6 a7 a8 x
  obtain ⟨v4, h4⟩ := F98_ex v1.1 v1.2 v2.1 v2.2 x
  obtain ⟨v5, h5⟩ := F98_ex v2.1 v2.2 v3.1 v3.2 x
  obtain ⟨v6, h6⟩ := F98_ex v4.1 v4.2 v5.1 v5.2 x
  refine ⟨(a1, a2, v1.1, v1.2, v4.1, v4.2, v6.1, v6.2, v6.1, v6.2, v5.1, v5.2, v3.1, v3.2, a7, a8), fun k => ?_⟩
  rw [F78, h1, Option.bind_some, h2, Option.bind_some, h3, Option.bind_some, h4, Option.bind_some, h5, Option.bind_some, h6, Option.bind_some]
theorem F61_eq (nl : Bool) (hl : l.length ≤ 605) : F61 (k + 1) nl (l.map encP) c = some ((l.length / 3 : Nat) : Int) := by
  unfold F61
  simp only [List.length_map, td3 (show l.length ≤ 610 by omega)]
theorem near_eq (nl : Bool) (a : Int) (ha : -9223372036854775808 ≤ a) (hb : a ≤ 9223372036854775807) (hl : l.length ≤ 605) (hv : vld l c = true) :
    ∃ s : Int × Int × Int × Int × Int × Int, ∀ j, F74 (j + 640) nl (l.map encP) c a = some (s.1, s.2.1, s.2.2.1, s.2.2.2.1, s.2.2.2.2.1, s.2.2.2.2.2, 0) ∧ F76 (j + 640) nl (l.map encP) c a = some s := by
  obtain ⟨hp, hn, hc, ho⟩ := vld_pos hv
  obtain ⟨p, hpl, hp1, hp2⟩ := plI_nat (l := l) (c := c) a hv
  have hq : p / 65536 ≤ l.length / 3 := by omega
  have e1 : w64 ((p : Int).tdiv 65536) = ((p / 65536 : Nat) : Int) := by
    rw [Int.tdiv_eq_ediv_of_nonneg (by omega), w64_id (by omega) (by omega)]; omega
  have e2 : (p : Int).tmod 65536 = ((p % 65536 : Nat) : Int) := by
    rw [Int.tmod_eq_emod_of_nonneg (by omega)]; omega
  generalize hqq : p / 65536 = q at *
  generalize hff : p % 65536 = f at *
  have hq1 : q ≤ 1000 := by omega
  by_cases hf : 0 < f
  · obtain ⟨v, h78⟩ := F78_ex (sg l q).1 (sg l q).2.1 (sg l q).2.2.1 (sg l q).2.2.2.1 (sg l q).2.2.2.2.1 (sg l q).2.2.2.2.2.1 (sg l q).2.2.2.2.2.2.1 (sg l q).2.2.2.2.2.2.2 (f : Int)
    have hf' : decide ((0 : Int) < (f : Int)) = true := decide_eq_true (by omega)
    refine ⟨(v.2.2.2.2.1, v.2.2.2.2.2.1, v.2.2.2.2.2.2.1, v.2.2.2.2.2.2.2.1, v.2.2.2.2.2.2.2.2.2.2.1, v.2.2.2.2.2.2.2.2.2.2.2.1), fun j => ⟨?_, ?_⟩⟩
    · rw [F74]
      simp only [F29_eq (k := j + 634) nl hl (by omega), hv, F77_eq (k := j + 637) nl a hv, F62_eq (k := j + 633) nl q hq1 hp, h78 (j + 635), hpl, e1, e2, hf', Option.bind_some, cleanP, asrt_true, cond_true]
    · rw [F76]
      simp only [F79_eq (k := j + 637) nl a ha hb hv, F65_eq (k := j + 637) nl q hq1 hp, h78 (j + 635), hpl, e1, e2, hf', Option.bind_some, cleanP, asrt_true, cond_true]
  · have hf' : decide ((0 : Int) < (f : Int)) = false := decide_eq_false (by omega)
    have hf0 : f = 0 := by omega
    have hpq : p = q * 65536 := by omega
    have h3q : 3 * q < l.length := by
      cases c with
      | true => have := hp2 rfl; have := hc rfl; omega
      | false => have := ho rfl; omega
    have m0 : 3 * q % l.length = 3 * q := Nat.mod_eq_of_lt h3q
    have wb : w64 (((3 * q : Nat) : Int) + (l.length : Int)) = ((3 * q + l.length : Nat) : Int) := wa _ (by omega) (by omega)
    have wc : w64 (((3 * q + l.length : Nat) : Int) - 1) = ((3 * q + l.length - 1 : Nat) : Int) := by rw [w64_id (by omega) (by omega)]; omega
    have h1 := wa (x := 3 * q) 1 (by omega) (by omega)
    rw [show ((1 : Nat) : Int) = 1 from rfl] at h1
    have mp : (3 * q + l.length - 1) % l.length < l.length := Nat.mod_lt _ hp
    cases c with
    | true =>
      have hqn : 3 * q + 1 < l.length := by have := hp2 rfl; have := hc rfl; omega
      have m1 : (3 * q + 1) % l.length = 3 * q + 1 := Nat.mod_eq_of_lt hqn
      refine ⟨((l.getD ((3 * q + l.length - 1) % l.length) (0, 0)).1, (l.getD ((3 * q + l.length - 1) % l.length) (0, 0)).2, (l.getD (3 * q) (0, 0)).1, (l.getD (3 * q) (0, 0)).2, (l.getD (3 * q + 1) (0, 0)).1, (l.getD (3 * q + 1) (0, 0)).2), fun j => ⟨?_, ?_⟩⟩
      · rw [F74]
        simp only [F29_eq (k := j + 634) nl hl (by omega), hv, F77_eq (k := j + 637) nl a hv, hpl, e1, e2, hf', Option.bind_some, cleanP, asrt_true, cond_true, cond_false, w3 hq1, List.length_map, inb h3q, okP, Int.toNat_natCast, decide_eq_true h3q, n0 hp, wb, wc, tmn, inb mp, decide_eq_true mp, h1, inb hqn, decide_eq_true hqn, eI0, eI1]
      · rw [F76]
        simp only [F79_eq (k := j + 637) nl a ha hb hv, hpl, e1, e2, hf', Option.bind_some, cleanP, asrt_true, cond_true, cond_false, w3 hq1, List.length_map, wb, wc, h1, F92_eq (k := j + 638) nl _ hp, m0, m1]
    | false =>
      have hn1 := ho rfl
      by_cases hq0 : 0 < q
      · have hq' : decide ((0 : Int) < (q : Int)) = true := decide_eq_true (by omega)
        have mq : (3 * q + l.length - 1) % l.length = 3 * q - 1 := by
          rw [show 3 * q + l.length - 1 = 3 * q - 1 + l.length by omega, Nat.add_mod_right, Nat.mod_eq_of_lt (by omega)]
        have wd : w64 (((3 * q : Nat) : Int) - 1) = ((3 * q - 1 : Nat) : Int) := by rw [w64_id (by omega) (by omega)]; omega
        have h3p : 3 * q - 1 < l.length := by omega
        by_cases hqN : q < l.length / 3
        · have hqN' : decide ((q : Int) < ((l.length / 3 : Nat) : Int)) = true := decide_eq_true (by omega)
          have hqn : 3 * q + 1 < l.length := by omega
          have m1 : (3 * q + 1) % l.length = 3 * q + 1 := Nat.mod_eq_of_lt hqn
          refine ⟨((l.getD (3 * q - 1) (0, 0)).1, (l.getD (3 * q - 1) (0, 0)).2, (l.getD (3 * q) (0, 0)).1, (l.getD (3 * q) (0, 0)).2, (l.getD (3 * q + 1) (0, 0)).1, (l.getD (3 * q + 1) (0, 0)).2), fun j => ⟨?_, ?_⟩⟩
          · rw [F74]
            simp only [F29_eq (k := j + 634) nl hl (by omega), hv, F77_eq (k := j + 637) nl a hv, hpl, e1, e2, hf', Option.bind_some, cleanP, asrt_true, cond_true, cond_false, w3 hq1, List.length_map, inb h3q, okP, Int.toNat_natCast, decide_eq_true h3q, n0 hp, wb, wc, tmn, mq, inb h3p, decide_eq_true h3p, h1, inb hqn, decide_eq_true hqn, eI0, eI1, hq', F61_eq (k := j + 638) nl hl, hqN']
          · rw [F76]
            simp only [F79_eq (k := j + 637) nl a ha hb hv, hpl, e1, e2, hf', Option.bind_some, cleanP, asrt_true, cond_true, cond_false, w3 hq1, List.length_map, wb, wc, h1, F92_eq (k := j + 638) nl _ hp, m0, m1, mq, hq', wd, inb h3p, decide_eq_true h3p, okP, Int.toNat_natCast, eI0, eI1, F61_eq (k := j + 638) nl hl, hqN']
        · have hqN' : decide ((q : Int) < ((l.length / 3 : Nat) : Int)) = false := decide_eq_false (by omega)
          refine ⟨((l.getD (3 * q - 1) (0, 0)).1, (l.getD (3 * q - 1) (0, 0)).2, (l.getD (3 * q) (0, 0)).1, (l.getD (3 * q) (0, 0)).2, (l.getD (3 * q) (0, 0)).1, (l.getD (3 * q) (0, 0)).2), fun j => ⟨?_, ?_⟩⟩
          · rw [F74]
            simp only [F29_eq (k := j + 634) nl hl (by omega), hv, F77_eq (k := j + 637) nl a hv, hpl, e1, e2, hf', Option.bind_some, cleanP, asrt_true, cond_true, cond_false, w3 hq1, List.length_map, inb h3q, okP, Int.toNat_natCast, decide_eq_true h3q, n0 hp, wb, wc, tmn, mq, inb h3p, decide_eq_true h3p, eI0, eI1, hq', F61_eq (k := j + 638) nl hl, hqN']
          · rw [F76]
            simp only [F79_eq (k := j + 637) nl a ha hb hv, hpl, e1, e2, hf', Option.bind_some, cleanP, asrt_true, cond_true, cond_false, w3 hq1, List.length_map, wb, wc, F92_eq (k := j + 638) nl _ hp, m0, mq, hq', wd, inb h3p, decide_eq_true h3p, okP, Int.toNat_natCast, eI0, eI1, F61_eq (k := j + 638) nl hl, hqN']
      · have hq' : decide ((0 : Int) < (q : Int)) = false := decide_eq_false (by omega)
        by_cases hqN : q < l.length / 3
        · have hqN' : decide ((q : Int) < ((l.length / 3 : Nat) : Int)) = true := decide_eq_true (by omega)
          have hqn : 3 * q + 1 < l.length := by omega
          have m1 : (3 * q + 1) % l.length = 3 * q + 1 := Nat.mod_eq_of_lt hqn
          refine ⟨((l.getD (3 * q) (0, 0)).1, (l.getD (3 * q) (0, 0)).2, (l.getD (3 * q) (0, 0)).1, (l.getD (3 * q) (0, 0)).2, (l.getD (3 * q + 1) (0, 0)).1, (l.getD (3 * q + 1) (0, 0)).2), fun j => ⟨?_, ?_⟩⟩
          · rw [F74]
            simp only [F29_eq (k := j + 634) nl hl (by omega), hv, F77_eq (k := j + 637) nl a hv, hpl, e1, e2, hf', Option.bind_some, cleanP, asrt_true, cond_true, cond_false, w3 hq1, List.length_map, inb h3q, okP, Int.toNat_natCast, decide_eq_true h3q, h1, inb hqn, decide_eq_true hqn, eI0, eI1, hq', F61_eq (k := j + 638) nl hl, hqN']
          · rw [F76]
            simp only [F79_eq (k := j + 637) nl a ha hb hv, hpl, e1, e2, hf', Option.bind_some, cleanP, asrt_true, cond_true, cond_false, w3 hq1, List.length_map, h1, F92_eq (k := j + 638) nl _ hp, m0, m1, hq', F61_eq (k := j + 638) nl hl, hqN']
        · have hqN' : decide ((q : Int) < ((l.length / 3 : Nat) : Int)) = false := decide_eq_false (by omega)
          refine ⟨((l.getD (3 * q) (0, 0)).1, (l.getD (3 * q) (0, 0)).2, (l.getD (3 * q) (0, 0)).1, (l.getD (3 * q) (0, 0)).2, (l.getD (3 * q) (0, 0)).1, (l.getD (3 * q) (0, 0)).2), fun j => ⟨?_, ?_⟩⟩
          · rw [F74]
            simp only [F29_eq (k := j + 634) nl hl (by omega), hv, F77_eq (k := j + 637) nl a hv, hpl, e1, e2, hf', Option.bind_some, cleanP, asrt_true, cond_true, cond_false, w3 hq1, List.length_map, inb h3q, okP, Int.toNat_natCast, decide_eq_true h3q, eI0, eI1, hq', F61_eq (k := j + 638) nl hl, hqN']
          · rw [F76]
            simp only [F79_eq (k := j + 637) nl a ha hb hv, hpl, e1, e2, hf', Option.bind_some, cleanP, asrt_true, cond_true, cond_false, w3 hq1, List.length_map, F92_eq (k := j + 638) nl _ hp, m0, hq', F61_eq (k := j + 638) nl hl, hqN']
theorem F24_eq (nl : Bool) : F24 (k + 4) false [.agg [.sl nl 2 (l.map encP) .no, .bool c]] = some (decide (l.length ≤ 605)) := by
  have h1 : w64 ((0 : Int) + 1) = 1 := by decide
  have e0 : okE true [.sl 2, .bool] [AV.agg [.sl nl 2 (l.map encP) .no, .bool c]] (Int.toNat 0) = true := rfl
  have e1 : eL [AV.agg [.sl nl 2 (l.map encP) .no, .bool c]] (Int.toNat 0) 0 = l.map encP := rfl
  have e2 : decide ((0 : Int) < (([AV.agg [.sl nl 2 (l.map encP) .no, .bool c]].length : Nat) : Int)) = true := rfl
  have e3 : decide (0 ≤ (0 : Int) ∧ (0 : Int) < (([AV.agg [.sl nl 2 (l.map encP) .no, .bool c]].length : Nat) : Int)) = true := rfl
  have e4 : decide ((1 : Int) < (([AV.agg [.sl nl 2 (l.map encP) .no, .bool c]].length : Nat) : Int)) = false := rfl
  unfold F24 F24_L1
  simp only [e0, e1, e2, e3, cond_true, asrt_true, List.length_map, h1]
  by_cases h : l.length ≤ 605
  · have h2 : decide ((605 : Int) < (l.length : Int)) = false := decide_eq_false (by omega)
    rw [h2, cond_false]
    unfold F24_L1
    simp only [e4, cond_false, h, decide_true]
    rfl
  · have h2 : decide ((605 : Int) < (l.length : Int)) = true := decide_eq_true (by omega)
    rw [h2, cond_true]
    simp [h]
theorem F28_eq (n1 n2 : Bool) (hl : l.length ≤ 1000) (hk : 1010 ≤ k) : F28 (k + 1) n1 (l.map encP) n2 (l.map encP) = some true := by
  have h := F28_L1_eq (k := k) (l := l) n1 n2 hl l.length 0 k (by omega) (by omega)
  rw [show ((0 : Nat) : Int) = 0 from rfl] at h
  unfold F28
  simp [h, cleanP]
/-- What the two sides say of a place: the same. -/
theorem ask_eq (nl : Bool) (a : Int) (ha : -9223372036854775808 ≤ a) (hb : a ≤ 9223372036854775807) (hl : l.length ≤ 605) :
    ∃ (p q r : Int × Int × Int) (d : Int × Int × Int), F30 2000 nl (l.map encP) c a = some p ∧ F31 2000 nl (l.map encP) c a = some p ∧ F32 2000 nl (l.map encP) c a = some q ∧ F33 2000 nl (l.map encP) c a = some q ∧
      F34 2000 nl (l.map encP) c a = some r ∧ F35 2000 nl (l.map encP) c a = some r ∧ F36 2000 nl (l.map encP) c a = some d ∧ F37 2000 nl (l.map encP) c a = some d := by
  cases hv : vld l c with
  | true =>
    obtain ⟨s, hs⟩ := near_eq (l := l) (c := c) nl a ha hb hl hv
    have a1 := (hs 1359).1
    have a2 := (hs 1359).2
    have a3 := (hs 1358).2
    rw [show 1359 + 640 = 1999 from rfl] at a1 a2
    rw [show 1358 + 640 = 1998 from rfl] at a3
    have f1 := F21_eq (l := l) (c := c) (k := 1996) nl hl (by omega)
    have f2 := F21_eq (l := l) (c := c) (k := 1997) nl hl (by omega)
    rw [show 1996 + 2 = 1998 from rfl, hv] at f1
    rw [show 1997 + 2 = 1999 from rfl, hv] at f2
    refine ⟨(s.2.2.1, s.2.2.2.1, 0), (s.1, s.2.1, 0), (s.2.2.2.2.1, s.2.2.2.2.2, 0), (w64 (s.2.2.2.2.1 - s.1), w64 (s.2.2.2.2.2 - s.2.1), 0), ?_, ?_, ?_, ?_, ?_, ?_, ?_, ?_⟩
    · rw [F30]; simp only [a1, Option.bind_some, cleanP, asrt_true]
    · rw [F31, F75]; simp only [f1, a3, Option.bind_some, cleanP, asrt_true, cond_true]
    · rw [F32]; simp only [a1, Option.bind_some, cleanP, asrt_true]
    · rw [F33, F75a]; simp only [f1, a3, Option.bind_some, cleanP, asrt_true, cond_true]
    · rw [F34]; simp only [a1, Option.bind_some, cleanP, asrt_true]
    · rw [F35, F75b]; simp only [f1, a3, Option.bind_some, cleanP, asrt_true, cond_true]
    · rw [F36]; simp only [a1, Option.bind_some, cleanP, asrt_true]
    · rw [F37]; simp only [f2, a2, Option.bind_some, cleanP, asrt_true, cond_true]
  | false =>
    have f0 := F29_eq (l := l) (c := c) (k := 1993) nl hl (by omega)
    have f1 := F21_eq (l := l) (c := c) (k := 1996) nl hl (by omega)
    have f2 := F21_eq (l := l) (c := c) (k := 1997) nl hl (by omega)
    rw [show 1993 + 5 = 1998 from rfl, hv] at f0
    rw [show 1996 + 2 = 1998 from rfl, hv] at f1
    rw [show 1997 + 2 = 1999 from rfl, hv] at f2
    have a1 : F74 1999 nl (l.map encP) c a = some (0, 0, 0, 0, 0, 0, 2) := by
      rw [F74]; simp only [f0, Option.bind_some, cleanP, asrt_true, cond_false]
    have w0 : w64 ((0 : Int) - 0) = 0 := by decide
    refine ⟨(0, 0, 2), (0, 0, 2), (0, 0, 2), (0, 0, 2), ?_, ?_, ?_, ?_, ?_, ?_, ?_, ?_⟩
    · rw [F30]; simp only [a1, Option.bind_some, cleanP, asrt_true]
    · rw [F31, F75]; simp only [f1, Option.bind_some, cleanP, asrt_true, cond_false]
    · rw [F32]; simp only [a1, Option.bind_some, cleanP, asrt_true]
    · rw [F33, F75a]; simp only [f1, Option.bind_some, cleanP, asrt_true, cond_false]
    · rw [F34]; simp only [a1, Option.bind_some, cleanP, asrt_true]
    · rw [F35, F75b]; simp only [f1, Option.bind_some, cleanP, asrt_true, cond_false]
    · rw [F36]; simp only [a1, Option.bind_some, cleanP, asrt_true, w0]
    · rw [F37]; simp only [f2, Option.bind_some, cleanP, asrt_true, cond_false]
end
/-- The law, plainly. -/
theorem pathsPoints_plain (nl : Bool) (l : List (Int × Int)) (c : Bool) (a : Int) (ha : -9223372036854775808 ≤ a) (hb : a ≤ 9223372036854775807) : F6 2001 nl (l.map encP) c a = some true := by
  have hA : F13 2000 = some true := awake_ok
  have h24 := F24_eq (l := l) (c := c) (k := 1996) nl
  rw [show 1996 + 4 = 2000 from rfl] at h24
  rw [show (2001 : Nat) = 2000 + 1 from rfl, F6]
  by_cases hl : l.length ≤ 605
  · obtain ⟨p, q, r, d, h1, h2, h3, h4, h5, h6, h7, h8⟩ := ask_eq (l := l) (c := c) nl a ha hb hl
    obtain ⟨x, hx1, hx2⟩ := box2_eq (l := l) (c := c) (k := 1994) nl hl (by omega)
    obtain ⟨b, kn, e, hk1, hk2, hk3⟩ := knots_eq (l := l) (c := c) (k := 1994) nl hl (by omega)
    have h25 := F25_eq (l := l) (c := c) (k := 1994) nl hl (by omega)
    have h26 := F26_eq (l := l) (c := c) (k := 1994) nl hl (by omega)
    have h28 := F28_eq (l := kn) (k := 1999) b b (by omega) (by omega)
    have h29 := F29_eq (l := l) (c := c) (k := 1995) nl hl (by omega)
    have h21 := F21_eq (l := l) (c := c) (k := 1998) nl hl (by omega)
    rw [show 1994 + 6 = 2000 from rfl] at hx1 hx2 hk1 hk2 h25 h26
    rw [show 1999 + 1 = 2000 from rfl] at h28
    rw [show 1995 + 5 = 2000 from rfl] at h29
    rw [show 1998 + 2 = 2000 from rfl] at h21
    simp only [h24, hl, decide_true, Option.bind_some, cleanP, asrt_true, cond_true, h25, h26, hk1, hk2, h28, h29, h21, h1, h2, h3, h4, h5, h6, h7, h8, hx1, hx2, bne_self_eq_false, cond_false, beq_self_eq_true, Bool.and_self, Bool.and_true, hA]
  · simp only [h24, hl, decide_false, Option.bind_some, cleanP, asrt_true, cond_false, hA]
end Go.Proofs.YtjfpcgkgdajcfaaGreatDoor
