/-
  PathsPoints, plainly: the printed functions answer true; no condition but the sizes named.
-/
import Derived.Test.YtjfpcgkgdajcfaaGreatDoorEvPd
import Derived.Test.YtjfpcgkgdajcfaaGreatDoorR1
import Derived.Test.YtjfpcgkgdajcfaaGreatDoorPureA
open Go Go.Ev
namespace Go.Proofs.YtjfpcgkgdajcfaaGreatDoor
set_option linter.unusedSimpArgs false
set_option linter.unusedVariables false
/-- Is a point placed? -/
def plc (p : Int × Int) : Bool := decide (-268435455 ≤ p.1 ∧ p.1 ≤ 268435455 ∧ -268435455 ≤ p.2 ∧ p.2 ≤ 268435455)
theorem F55_eq (k : Nat) (x y : Int) : F55 (k + 1) x y = some (plc (x, y)) := by
  have h : F55 (k + 1) x y = some (decide (-268435455 ≤ mn2 x y) && decide (mx2 x y ≤ 268435455)) := by
    unfold F55
    dsimp only
    cases decide (-268435455 ≤ mn2 x y) <;> rfl
  rw [h]
  congr 1
  rw [Bool.eq_iff_iff]
  unfold plc mn2 mx2
  simp only [Bool.and_eq_true, decide_eq_true_eq]
  split <;> split <;> omega
theorem F54_eq (k : Nat) (x y : Int) : F54 (k + 2) x y = some (!plc (x, y)) := by
  unfold F54
  simp only [F55_eq, Option.bind_some]
theorem F57_eq (k : Nat) (x y : Int) : F57 (k + 1) x y = some (plc (x, y)) := by
  have h : F57 (k + 1) x y = some (decide (-268435455 ≤ x) && (decide (x ≤ 268435455) && (decide (-268435455 ≤ y) && decide (y ≤ 268435455)))) := by
    unfold F57
    dsimp only
    cases decide (-268435455 ≤ x) <;> cases decide (x ≤ 268435455) <;> cases decide (-268435455 ≤ y) <;> rfl
  rw [h]
  congr 1
  rw [Bool.eq_iff_iff]
  unfold plc
  simp only [Bool.and_eq_true, decide_eq_true_eq]

section
variable {l : List (Int × Int)} {c : Bool} {k : Nat}
theorem F87_L1_eq (nl : Bool) (hl : l.length ≤ 610) : ∀ (r j m : Nat), j + r = l.length → r < m →
    ((l.drop j).all plc = true → F87_L1 (k + 2) (l.map encP) m j = some (.inr ())) ∧ ((l.drop j).all plc = false → ∃ i : Nat, F87_L1 (k + 2) (l.map encP) m j = some (.inl (i : Int))) := by
  intro r
  induction r with
  | zero =>
    intro j m hj hm
    cases m with
    | zero => omega
    | succ m =>
      have h0 : l.drop j = [] := List.drop_of_length_le (by omega)
      have h1 : ¬ ((j : Int) < (l.length : Int)) := by omega
      rw [h0]
      refine ⟨fun _ => ?_, fun h => by simp at h⟩
      unfold F87_L1
      simp [h1]
  | succ r ih =>
    intro j m hj hm
    cases m with
    | zero => omega
    | succ m =>
      have hjl : j < l.length := by omega
      have h1 : decide ((j : Int) < (l.length : Int)) = true := decide_eq_true (by omega)
      have h10 : decide (0 ≤ (j : Int) ∧ (j : Int) < (l.length : Int)) = true := decide_eq_true ⟨by omega, by omega⟩
      have h6 : w64 ((j : Int) + 1) = ((j + 1 : Nat) : Int) := by rw [w64_id (by omega) (by omega)]; omega
      have hd : l.drop j = l.getD j (0, 0) :: l.drop (j + 1) := by rw [List.drop_eq_getElem_cons hjl, List.getD_eq_getElem?_getD, List.getElem?_eq_getElem hjl]; rfl
      have hs : F87_L1 (k + 2) (l.map encP) (m + 1) j = bif !plc (l.getD j (0, 0)) then some (.inl (j : Int)) else F87_L1 (k + 2) (l.map encP) m ((j + 1 : Nat) : Int) := by
        rw [F87_L1]
        simp only [List.length_map, h1, cond_true, asrt_true, okP, Int.toNat_natCast, decide_eq_true hjl, h10, eI0, eI1, F54_eq, Option.bind_some, h6]
      rw [hd, List.all_cons, hs]
      cases hp : plc (l.getD j (0, 0)) with
      | true => exact ih (j + 1) m (by omega) (by omega)
      | false => exact ⟨fun h => by simp at h, fun _ => ⟨j, rfl⟩⟩
theorem F53_eq (nl : Bool) (hl : l.length ≤ 610) (hk : 620 ≤ k) : F53 (k + 4) nl (l.map encP) = some (!l.all plc) := by
  obtain ⟨h1, h2⟩ := F87_L1_eq (k := k) (l := l) nl hl l.length 0 (k + 2) (by omega) (by omega)
  rw [List.drop_zero] at h1 h2
  unfold F53 F87
  simp only [cleanP, asrt_true]
  cases hp : l.all plc with
  | true =>
    have h3 := h1 hp
    rw [show ((0 : Nat) : Int) = 0 from rfl] at h3
    rw [h3]; rfl
  | false =>
    obtain ⟨i, h3⟩ := h2 hp
    rw [show ((0 : Nat) : Int) = 0 from rfl] at h3
    rw [h3]
    have : (0 : Int) ≤ (i : Int) := by omega
    simp [this]
theorem F28_L1_eq (n1 n2 : Bool) (hl : l.length ≤ 1000) : ∀ (r j m : Nat), j + r = l.length → r < m → F28_L1 k (l.map encP) (l.map encP) m j = some (.inr ()) := by
  intro r
  induction r with
  | zero =>
    intro j m hj hm
    cases m with
    | zero => omega
    | succ m =>
      have : ¬ ((j : Int) < (l.length : Int)) := by omega
      rw [F28_L1]
      simp [this]
  | succ r ih =>
    intro j m hj hm
    cases m with
    | zero => omega
    | succ m =>
      have hjl : j < l.length := by omega
      have h1 : decide ((j : Int) < (l.length : Int)) = true := decide_eq_true (by omega)
      have h6 : w64 ((j : Int) + 1) = ((j + 1 : Nat) : Int) := by rw [w64_id (by omega) (by omega)]; omega
      have h10 : decide (0 ≤ (j : Int) ∧ (j : Int) < (l.length : Int)) = true := decide_eq_true ⟨by omega, by omega⟩
      rw [F28_L1]
      simp only [List.length_map, h1, cond_true, asrt_true, okP, Int.toNat_natCast, decide_eq_true hjl, h10, eI0, eI1, beq_self_eq_true, Bool.and_self, Bool.and_true, h6]
      exact ih (j + 1) m (by omega) (by omega)
theorem F16_eq (n1 n2 : Bool) (hl : l.length ≤ 1000) (hk : 1010 ≤ k) : F16 (k + 2) n1 (l.map encP) c n2 (l.map encP) c = some true := by
  have h := F28_L1_eq (k := k) (l := l) n1 n2 hl l.length 0 k (by omega) (by omega)
  rw [show ((0 : Nat) : Int) = 0 from rfl] at h
  unfold F16 F28
  simp [h, cleanP]


theorem tm3 (n : Nat) : ((n : Int)).tmod 3 = ((n % 3 : Nat) : Int) := by rw [Int.tmod_eq_emod_of_nonneg (by omega)]; omega
theorem td3 {n : Nat} (h : n ≤ 610) : w64 (((n : Int)).tdiv 3) = ((n / 3 : Nat) : Int) := by
  rw [Int.tdiv_eq_ediv_of_nonneg (by omega), w64_id (by omega) (by omega)]; omega
/-- Is a path valid? -/
def vld (l : List (Int × Int)) (c : Bool) : Bool := (bif c then decide (3 ≤ l.length) && decide (l.length % 3 = 0) else decide (l.length % 3 = 1)) && decide (l.length ≤ 601) && l.all plc
theorem F29_eq (nl : Bool) (hl : l.length ≤ 605) (hk : 620 ≤ k) : F29 (k + 5) nl (l.map encP) c = some (vld l c) := by
  have h53 := F53_eq (k := k) (l := l) nl (by omega) hk
  unfold F29 F61
  simp only [List.length_map, tm3, td3 (show l.length ≤ 610 by omega), cleanP, asrt_true, Option.bind_some, h53]
  unfold vld
  cases c with
  | true =>
    simp only [cond_true]
    by_cases h1 : l.length % 3 = 0
    · have e1 : (((l.length % 3 : Nat) : Int) != 0) = false := by simp [h1]
      rw [e1, cond_false]
      by_cases h2 : 3 ≤ l.length
      · have e2 : decide ((l.length : Int) < 3) = false := decide_eq_false (by omega)
        rw [e2, cond_false]
        by_cases h3 : l.length ≤ 601
        · have e3 : decide ((200 : Int) < ((l.length / 3 : Nat) : Int)) = false := decide_eq_false (by omega)
          rw [e3, cond_false]
          simp [h1, h2, h3]
        · have e3 : decide ((200 : Int) < ((l.length / 3 : Nat) : Int)) = true := decide_eq_true (by omega)
          rw [e3, cond_true]
          simp [h3]
      · have e2 : decide ((l.length : Int) < 3) = true := decide_eq_true (by omega)
        rw [e2, cond_true]
        simp [h2]
    · have e1 : (((l.length % 3 : Nat) : Int) != 0) = true := by
        rw [bne_iff_ne]; omega
      rw [e1, cond_true]
      simp [h1]
  | false =>
    simp only [cond_false]
    by_cases h1 : l.length % 3 = 1
    · have e1 : (((l.length % 3 : Nat) : Int) != 1) = false := by simp [h1]
      rw [e1, cond_false]
      by_cases h3 : l.length ≤ 601
      · have e3 : decide ((200 : Int) < ((l.length / 3 : Nat) : Int)) = false := decide_eq_false (by omega)
        rw [e3, cond_false]
        simp [h1, h3]
      · have e3 : decide ((200 : Int) < ((l.length / 3 : Nat) : Int)) = true := decide_eq_true (by omega)
        rw [e3, cond_true]
        simp [h3]
    · have e1 : (((l.length % 3 : Nat) : Int) != 1) = true := by
        rw [bne_iff_ne]; omega
      rw [e1, cond_true]
      simp [h1]
theorem F21_L1_eq (nl : Bool) (hl : l.length ≤ 610) : ∀ (r j m : Nat), j + r = l.length → r < m →
    ((l.drop j).all plc = true → F21_L1 (k + 1) (l.map encP) m j = some (.inr ())) ∧ ((l.drop j).all plc = false → F21_L1 (k + 1) (l.map encP) m j = some (.inl ())) := by
  intro r
  induction r with
  | zero =>
    intro j m hj hm
    cases m with
    | zero => omega
    | succ m =>
      have h0 : l.drop j = [] := List.drop_of_length_le (by omega)
      have h1 : ¬ ((j : Int) < (l.length : Int)) := by omega
      rw [h0]
      refine ⟨fun _ => ?_, fun h => by simp at h⟩
      unfold F21_L1
      simp [h1]
  | succ r ih =>
    intro j m hj hm
    cases m with
    | zero => omega
    | succ m =>
      have hjl : j < l.length := by omega
      have h1 : decide ((j : Int) < (l.length : Int)) = true := decide_eq_true (by omega)
      have h10 : decide (0 ≤ (j : Int) ∧ (j : Int) < (l.length : Int)) = true := decide_eq_true ⟨by omega, by omega⟩
      have h6 : w64 ((j : Int) + 1) = ((j + 1 : Nat) : Int) := by rw [w64_id (by omega) (by omega)]; omega
      have hd : l.drop j = l.getD j (0, 0) :: l.drop (j + 1) := by rw [List.drop_eq_getElem_cons hjl, List.getD_eq_getElem?_getD, List.getElem?_eq_getElem hjl]; rfl
      have hs : F21_L1 (k + 1) (l.map encP) (m + 1) j = bif plc (l.getD j (0, 0)) then F21_L1 (k + 1) (l.map encP) m ((j + 1 : Nat) : Int) else some (.inl ()) := by
        rw [F21_L1]
        simp only [List.length_map, h1, cond_true, asrt_true, okP, Int.toNat_natCast, decide_eq_true hjl, h10, eI0, eI1, F57_eq, Option.bind_some, h6]
      rw [hd, List.all_cons, hs]
      cases hp : plc (l.getD j (0, 0)) with
      | true => exact ih (j + 1) m (by omega) (by omega)
      | false => exact ⟨fun h => by simp at h, fun _ => rfl⟩
theorem F21_eq (nl : Bool) (hl : l.length ≤ 605) (hk : 620 ≤ k) : F21 (k + 2) nl (l.map encP) c = some (vld l c) := by
  obtain ⟨g1, g2⟩ := F21_L1_eq (k := k) (l := l) nl (by omega) l.length 0 (k + 1) (by omega) (by omega)
  rw [List.drop_zero, show ((0 : Nat) : Int) = 0 from rfl] at g1 g2
  unfold F21
  simp only [List.length_map, tm3]
  unfold vld
  cases c with
  | true =>
    simp only [cond_true]
    by_cases h2 : 3 ≤ l.length
    · have e2 : decide ((l.length : Int) < 3) = false := decide_eq_false (by omega)
      rw [e2, cond_false]
      by_cases h1 : l.length % 3 = 0
      · have e1 : (((l.length % 3 : Nat) : Int) != 0) = false := by simp [h1]
        rw [e1, cond_false]
        by_cases h3 : l.length ≤ 601
        · have e3 : decide ((601 : Int) < (l.length : Int)) = false := decide_eq_false (by omega)
          rw [e3, cond_false]
          cases hp : l.all plc with
          | true => rw [g1 hp]; simp [h1, h2, h3]
          | false => rw [g2 hp]; simp
        · have e3 : decide ((601 : Int) < (l.length : Int)) = true := decide_eq_true (by omega)
          rw [e3, cond_true]
          simp [h3]
      · have e1 : (((l.length % 3 : Nat) : Int) != 0) = true := by
          rw [bne_iff_ne]; omega
        rw [e1, cond_true]
        simp [h1]
    · have e2 : decide ((l.length : Int) < 3) = true := decide_eq_true (by omega)
      rw [e2, cond_true]
      simp [h2]
  | false =>
    simp only [cond_false]
    by_cases h1 : l.length % 3 = 1
    · have e1 : (((l.length % 3 : Nat) : Int) != 1) = false := by simp [h1]
      rw [e1, cond_false]
      by_cases h3 : l.length ≤ 601
      · have e3 : decide ((601 : Int) < (l.length : Int)) = false := decide_eq_false (by omega)
        rw [e3, cond_false]
        cases hp : l.all plc with
        | true => rw [g1 hp]; simp [h1, h3]
        | false => rw [g2 hp]; simp
      · have e3 : decide ((601 : Int) < (l.length : Int)) = true := decide_eq_true (by omega)
        rw [e3, cond_true]
        simp [h3]
    · have e1 : (((l.length % 3 : Nat) : Int) != 1) = true := by
        rw [bne_iff_ne]; omega
      rw [e1, cond_true]
      simp [h1]
theorem vld_pos (h : vld l c = true) : 0 < l.length ∧ l.length ≤ 601 ∧ (c = true → l.length % 3 = 0 ∧ 3 ≤ l.length) ∧ (c = false → l.length % 3 = 1) := by
  unfold vld at h
  cases c <;> simp at h <;> refine ⟨by omega, by omega, fun h => ?_, fun h => ?_⟩ <;> first | omega | (exact absurd h (by simp)) | (exact ⟨by omega, by omega⟩)
theorem inb {x n : Nat} (h : x < n) : decide (0 ≤ (x : Int) ∧ (x : Int) < (n : Int)) = true := decide_eq_true ⟨by omega, by omega⟩
theorem tmn (x n : Nat) : ((x : Int)).tmod (n : Int) = ((x % n : Nat) : Int) := by
  rw [Int.tmod_eq_emod_of_nonneg (by omega)]; rfl
theorem n0 {n : Nat} (h : 0 < n) : decide ((n : Int) = 0) = false := decide_eq_false (by omega)
/-- A segment. -/
def sg (l : List (Int × Int)) (q : Nat) : Int × Int × Int × Int × Int × Int × Int × Int :=
  ((l.getD (3 * q % l.length) (0, 0)).1, (l.getD (3 * q % l.length) (0, 0)).2, (l.getD ((3 * q + 1) % l.length) (0, 0)).1, (l.getD ((3 * q + 1) % l.length) (0, 0)).2,
   (l.getD ((3 * q + 2) % l.length) (0, 0)).1, (l.getD ((3 * q + 2) % l.length) (0, 0)).2, (l.getD ((3 * q + 3) % l.length) (0, 0)).1, (l.getD ((3 * q + 3) % l.length) (0, 0)).2)
theorem w3 {q : Nat} (h : q ≤ 1000) : w64 (3 * (q : Int)) = ((3 * q : Nat) : Int) := by rw [w64_id (by omega) (by omega)]; omega
theorem wa {x : Nat} (i : Nat) (h : x ≤ 10000) (hi : i ≤ 10000) : w64 ((x : Int) + (i : Int)) = ((x + i : Nat) : Int) := by rw [w64_id (by omega) (by omega)]; omega
theorem F62_eq (nl : Bool) (q : Nat) (hq : q ≤ 1000) (hp : 0 < l.length) : F62 (k + 6) nl (l.map encP) c (q : Int) = some (sg l q) := by
  have h0 := wa (x := 3 * q) 0 (by omega) (by omega)
  have h1 := wa (x := 3 * q) 1 (by omega) (by omega)
  have h2 := wa (x := 3 * q) 2 (by omega) (by omega)
  have h3 := wa (x := 3 * q) 3 (by omega) (by omega)
  rw [show ((0 : Nat) : Int) = 0 from rfl] at h0
  rw [show ((1 : Nat) : Int) = 1 from rfl] at h1
  rw [show ((2 : Nat) : Int) = 2 from rfl] at h2
  rw [show ((3 : Nat) : Int) = 3 from rfl] at h3
  have hf : fuelN 5 (k + 5) = some k := by
    unfold fuelN
    rw [show Nat.ble 5 (k + 5) = true by rw [Nat.ble_eq]; omega, cond_true, Nat.add_sub_cancel]
  rw [F62, hf, Option.bind_some]
  have m0 : (3 * q + 0) % l.length < l.length := Nat.mod_lt _ hp
  have m1 : (3 * q + 1) % l.length < l.length := Nat.mod_lt _ hp
  have m2 : (3 * q + 2) % l.length < l.length := Nat.mod_lt _ hp
  have m3 : (3 * q + 3) % l.length < l.length := Nat.mod_lt _ hp
  simp only [List.length_map, n0 hp, cond_false, w3 hq, h0, h1, h2, h3, tmn, inb m0, inb m1, inb m2, inb m3, asrt_true, okP, Int.toNat_natCast, decide_eq_true m0, decide_eq_true m1, decide_eq_true m2, decide_eq_true m3, eI0, eI1]
  rfl
theorem F61_eq (nl : Bool) (hl : l.length ≤ 605) : F61 (k + 1) nl (l.map encP) c = some ((l.length / 3 : Nat) : Int) := by
  unfold F61
  simp only [List.length_map, td3 (show l.length ≤ 610 by omega)]
end
end Go.Proofs.YtjfpcgkgdajcfaaGreatDoor
