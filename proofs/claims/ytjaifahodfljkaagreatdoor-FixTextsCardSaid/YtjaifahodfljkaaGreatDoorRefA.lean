/-
  What the reference of the package fix computes, as plain functions: the same as the package's own.
-/
import Derived.Test.YtjaifahodfljkaaGreatDoorFixA
import Derived.Test.YtjaifahodfljkaaGreatDoorZx1
import Derived.Test.YtjaifahodfljkaaGreatDoorZx5
import Derived.Test.YtjaifahodfljkaaGreatDoorZx6
import Derived.Test.YtjaifahodfljkaaGreatDoorZx7
namespace Go.Proofs.YtjaifahodfljkaaGreatDoor.Z
open Go Go.RowKit Go.Proofs.YtjaifahodfljkaaGreatDoorW.PrintWords Go.Proofs.YtjaifahodfljkaaGreatDoorW.PrintMore

theorem ris_one (k : Nat) (a : Int) : fleuronref02_is.f (k + 2) [a] = some (isFix a) := by
  simp only [fleuronref02_is.f, fleuronref02_is.l0, rd_c0, List.length_cons, List.length_nil, w01]
  by_cases h1 : a < -2147483647
  · simp [h1, (isFix_not a).2 (Or.inl h1)]
  · by_cases h2 : a > 2147483647
    · simp [h1, h2, (isFix_not a).2 (Or.inr h2)]
    · simp [h1, h2, (isFix_iff a).2 (by omega)]
theorem ris_two (k : Nat) (a b : Int) : fleuronref02_is.f (k + 3) [a, b] = some (isFix a && isFix b) := by
  simp only [fleuronref02_is.f, fleuronref02_is.l0, rd_c0, rd_c1, List.length_cons, List.length_nil, w01, w12]
  by_cases h1 : a < -2147483647
  · simp [h1, (isFix_not a).2 (Or.inl h1)]
  · by_cases h2 : a > 2147483647
    · simp [h1, h2, (isFix_not a).2 (Or.inr h2)]
    · have ea := (isFix_iff a).2 (by omega)
      by_cases h3 : b < -2147483647
      · simp [h1, h2, h3, ea, (isFix_not b).2 (Or.inl h3)]
      · by_cases h4 : b > 2147483647
        · simp [h1, h2, h3, h4, ea, (isFix_not b).2 (Or.inr h4)]
        · simp [h1, h2, h3, h4, ea, (isFix_iff b).2 (by omega)]
theorem rtold_ok (k : Nat) (a : Int) : fleuronref02_told.f (k + 2) a = some (told a) := by
  unfold fleuronref02_told.f told
  rw [ris_one]; simp only [Option.bind_some]
  split <;> rfl
theorem rdown_ok (a b : Int) (hb : 0 < b) (hb1 : b ≤ 9223372036854775807) (h0 : -9223372036854775807 ≤ a) (h1 : a ≤ 9223372036854775807) : fleuronref02_down.f a b = some (a / b) := floor_ok a b hb hb1 h0 h1
theorem near_half (a b : Int) (hb : 0 < b) : (2 * a + b) / (2 * b) = if a - a / b * b ≥ b - (a - a / b * b) then a / b + 1 else a / b := by
  have h0 := Int.mul_ediv_add_emod a b
  have h1 := Int.emod_nonneg a (show b ≠ 0 by omega)
  have h2 := Int.emod_lt_of_pos a hb
  rw [Int.mul_comm] at h0
  have key : ∀ q r : Int, 2 * b * q + r = 2 * a + b → 0 ≤ r → r < 2 * b → (2 * a + b) / (2 * b) = q := by
    intro q r h h0 h1
    rw [← h, Int.add_comm, Int.add_mul_ediv_left _ _ (by omega), Int.ediv_eq_zero_of_lt h0 h1]; omega
  generalize a / b = q at *
  generalize a % b = m at *
  have e : a - q * b = m := by omega
  rw [e]
  split
  · exact key (q + 1) (2 * m - b) (by rw [Int.mul_add, Int.mul_assoc, Int.mul_comm b q]; omega) (by omega) (by omega)
  · exact key q (2 * m + b) (by rw [Int.mul_assoc, Int.mul_comm b q]; omega) (by omega) (by omega)
theorem rnear_ok (a b : Int) (hb : 0 < b) (hb1 : b ≤ 4611686018427387903) (h0 : -4611686018427387903 ≤ a) (h1 : a ≤ 4611686018427387903) : fleuronref02_near.f a b = some ((2 * a + b) / (2 * b)) := by
  unfold fleuronref02_near.f
  rw [rdown_ok a b hb (by omega) (by omega) (by omega), near_half a b hb]
  simp only [Option.bind_some]
  have g0 := Int.mul_ediv_add_emod a b
  have g1 := Int.emod_nonneg a (show b ≠ 0 by omega)
  have g2 := Int.emod_lt_of_pos a hb
  rw [Int.mul_comm] at g0
  have g3 : -4611686018427387904 ≤ a / b ∧ a / b ≤ 4611686018427387904 := by
    constructor
    · apply Int.le_ediv_of_mul_le hb
      have := Int.mul_le_mul_of_nonneg_left (show (1 : Int) ≤ b by omega) (show (0 : Int) ≤ 4611686018427387904 by omega)
      omega
    · apply Int.ediv_le_of_le_mul hb
      have := Int.mul_le_mul_of_nonneg_left (show (1 : Int) ≤ b by omega) (show (0 : Int) ≤ 4611686018427387904 by omega)
      omega
  generalize a / b = q at *
  generalize a % b = m at *
  rw [w64 (x := q * b) (by omega) (by omega), w64 (x := a - q * b) (by omega) (by omega), w64 (x := b - (a - q * b)) (by omega) (by omega), w64 (x := q + 1) (by omega) (by omega)]
  split <;> rfl

/-! ### Mul, Div -/
theorem rmul_ok (k : Nat) (hk : 3 ≤ k) (a b : Int) : fleuronref02_Mul.f k a b = some (mulS a b) := by
  unfold fleuronref02_Mul.f mulS
  obtain ⟨k, rfl⟩ : ∃ m, k = m + 3 := ⟨k - 3, by omega⟩
  rw [ris_two]; simp only [Option.bind_some]
  by_cases h : (isFix a && isFix b) = true
  · rw [if_pos h, if_pos h]
    obtain ⟨h1, h2⟩ := Bool.and_eq_true_iff.1 h
    rw [isFix_iff] at h1 h2
    have hm := mul_bd (A := 2147483647) (B := 2147483647) h1 h2
    rw [w64 (x := a * b) (by omega) (by omega), rnear_ok _ _ (by omega) (by omega) (by omega) (by omega), show (2 * (a * b) + 65536) / (2 * 65536) = (a * b + 32768) / 65536 by omega]
    simp only [Option.bind_some]
    rw [rtold_ok]; rfl
  · rw [if_neg h, if_neg h]
theorem rdiv_ok (k : Nat) (hk : 3 ≤ k) (a b : Int) : fleuronref02_Div.f k a b = some (divS a b) := by
  unfold fleuronref02_Div.f divS
  obtain ⟨k, rfl⟩ : ∃ m, k = m + 3 := ⟨k - 3, by omega⟩
  rw [ris_two]; simp only [Option.bind_some]
  by_cases h : (isFix a && isFix b) = true
  · rw [if_pos h, if_pos h]
    obtain ⟨h1, h2⟩ := Bool.and_eq_true_iff.1 h
    rw [isFix_iff] at h1 h2
    by_cases hb : b = 0
    · rw [if_pos hb, if_pos hb]
    · rw [if_neg hb, if_neg hb]
      by_cases hb2 : b < 0
      · rw [if_pos hb2, if_pos hb2, w64 (x := -a) (by omega) (by omega), w64 (x := -a * 65536) (by omega) (by omega), w64 (x := -b) (by omega) (by omega),
          rnear_ok _ _ (by omega) (by omega) (by omega) (by omega)]
        simp only [Option.bind_some]
        rw [rtold_ok]; rfl
      · rw [if_neg hb2, if_neg hb2, w64 (x := a * 65536) (by omega) (by omega), rnear_ok _ _ (by omega) (by omega) (by omega) (by omega)]
        simp only [Option.bind_some]
        rw [rtold_ok]; rfl
  · rw [if_neg h, if_neg h]

/-! ### Roots -/
theorem rroot_loop (j : Nat) : ∀ (k : Nat) (n r i : Int), j < k → j ≤ 32 → i = (j : Int) - 1 → 0 ≤ r → r * r ≤ n → n ≤ 9223372036854775807 → r ≤ 4294967296 →
    fleuronref02_root.l0 k n r i = some (rootL j n r) := by
  induction j with
  | zero =>
    intro k n r i hk hj hi h0 h1 h2 h3
    obtain ⟨k, rfl⟩ : ∃ m, k = m + 1 := ⟨k - 1, by omega⟩
    simp only [fleuronref02_root.l0, rootL]
    rw [if_neg (by omega)]
  | succ j ih =>
    intro k n r i hk hj hi h0 h1 h2 h3
    obtain ⟨k, rfl⟩ : ∃ m, k = m + 1 := ⟨k - 1, by omega⟩
    have ei : i = (j : Int) := by omega
    have hp : (0 : Int) < 2 ^ j := Int.pow_pos (by omega)
    have hp1 : (2 : Int) ^ j ≤ 4294967296 := by
      have : ∀ j : Fin 33, (2 : Int) ^ j.val ≤ 4294967296 := by decide
      exact this ⟨j, by omega⟩
    have hshl : shl .i64 1 (j : Int) = 2 ^ j := by
      unfold shl
      have e : min (j : Int).toNat (IntKind.bits .i64) = j := by simp [IntKind.bits]; omega
      rw [e, Int.one_mul]
      generalize (2 : Int) ^ j = p at *
      unfold IntKind.wrap; simp [IntKind.bits, IntKind.signed]; omega
    simp only [fleuronref02_root.l0, rootL]
    rw [ei, hshl, if_pos (by omega), if_pos (by omega), w64 (x := r + 2 ^ j) (by omega) (by omega), w64 (x := (j : Int) - 1) (by omega) (by omega)]
    generalize hx : r + 2 ^ j = x at *
    by_cases hc : x ≤ 3037000499
    · rw [if_pos hc]
      have hs : x * x ≤ 3037000499 * 3037000499 := Int.mul_le_mul hc hc (by omega) (by omega)
      have hs0 : 0 ≤ x * x := Int.mul_nonneg (by omega) (by omega)
      rw [w64 (x := x * x) (by omega) (by omega)]
      by_cases hd : x * x ≤ n
      · rw [if_pos hd, if_pos hd]
        exact ih k n x _ (by omega) (by omega) rfl (by omega) hd h2 (by omega)
      · rw [if_neg hd, if_neg hd]
        exact ih k n r _ (by omega) (by omega) rfl h0 h1 h2 h3
    · rw [if_neg hc]
      have hs : 3037000500 * 3037000500 ≤ x * x := Int.mul_le_mul (by omega) (by omega) (by omega) (by omega)
      rw [if_neg (by omega)]
      exact ih k n r _ (by omega) (by omega) rfl h0 h1 h2 h3
theorem rrooted_ok (k : Nat) (hk : 33 ≤ k) (n : Int) (h0 : 0 ≤ n) (h1 : n ≤ 9223372036854775807) : fleuronref02_rooted.f k n = some (rooted n) := by
  unfold fleuronref02_rooted.f fleuronref02_root.f
  rw [rroot_loop 32 k n 0 31 (by omega) (by omega) (by omega) (by omega) (by simpa using h0) h1 (by omega)]
  simp only [Option.bind_some]
  have hl := rootL_le 32 n 0
  have e : (0 : Int) + 2 ^ 32 - 1 = 4294967295 := by decide
  rw [e] at hl
  obtain ⟨a, b, c⟩ := rootL_spec 32 n 0 (by omega) (by simpa using h0) (by have e : ((0 : Int) + 2 ^ 32) * (0 + 2 ^ 32) = 18446744073709551616 := by decide
                                                                           omega)
  unfold rooted
  generalize rootL 32 n 0 = q at *
  have hq : 0 ≤ q * q := Int.mul_nonneg a a
  rw [w64 (x := q * q) (by omega) (by omega), w64 (x := n - q * q) (by omega) (by omega), w64 (x := q + 1) (by omega) (by omega)]
  simp only
  split <;> rfl
theorem rsqrt_ok (k : Nat) (hk : 33 ≤ k) (a : Int) : fleuronref02_Sqrt.f k a = some (sqrtS a) := by
  unfold fleuronref02_Sqrt.f sqrtS
  obtain ⟨k, rfl⟩ : ∃ m, k = m + 2 := ⟨k - 2, by omega⟩
  rw [ris_one]; simp only [Option.bind_some]
  by_cases h : isFix a = true
  · rw [if_pos h, if_pos h]
    rw [isFix_iff] at h
    by_cases h0 : a < 0
    · rw [if_pos h0, if_pos h0]
    · rw [if_neg h0, if_neg h0, w64 (x := a * 65536) (by omega) (by omega), rrooted_ok _ hk _ (by omega) (by omega)]
      simp only [Option.bind_some]
      rw [rtold_ok]; rfl
  · rw [if_neg h, if_neg h]
theorem rhypot_ok (k : Nat) (hk : 33 ≤ k) (a b : Int) : fleuronref02_Hypot.f k a b = some (hypotS a b) := by
  unfold fleuronref02_Hypot.f hypotS
  obtain ⟨k, rfl⟩ : ∃ m, k = m + 3 := ⟨k - 3, by omega⟩
  rw [ris_two]; simp only [Option.bind_some]
  by_cases h : (isFix a && isFix b) = true
  · rw [if_pos h, if_pos h]
    obtain ⟨h1, h2⟩ := Bool.and_eq_true_iff.1 h
    rw [isFix_iff] at h1 h2
    obtain ⟨_, a2, a3⟩ := umul a h1.1 h1.2
    obtain ⟨_, b2, b3⟩ := umul b h2.1 h2.2
    rw [w64 (x := a * a) (by omega) (by omega), w64 (x := b * b) (by omega) (by omega), w64 (x := a * a + b * b) (by omega) (by omega), rrooted_ok _ hk _ (by omega) (by omega)]
    simp only [Option.bind_some]
    rw [rtold_ok]; rfl
  · rw [if_neg h, if_neg h]

/-! ### Sine, Dir, Turn -/
theorem rseries_loop (t d : Int) (hd : d = 0 ∨ d = 1) (K : Nat) : ∀ (u sum sg k : Int), 1 ≤ k → k + K ≤ 400 →
    fleuronref02_series.l0 K u t d sum sg k = fix_series.l0 K u t sum sg (2 * k + d - 1) := by
  induction K with
  | zero => intro u sum sg k h1 h2; rfl
  | succ K ih =>
    intro u sum sg k h1 h2
    simp only [fleuronref02_series.l0, fix_series.l0]
    rw [w64 (x := 2 * k) (by omega) (by omega), w64 (x := 2 * k + d) (by omega) (by omega), w64 (x := 2 * k + d - 1) (by omega) (by omega), w64 (x := k + 1) (by omega) (by omega), w64 (x := 2 * k + d - 1 + 2) (by omega) (by omega),
      w64 (x := 2 * k + d - 1 + 1) (by omega) (by omega), show 2 * k + d - 1 + 1 = 2 * k + d by omega, ih _ _ _ _ (by omega) (by omega), show 2 * (k + 1) + d - 1 = 2 * k + d - 1 + 2 by omega]
theorem rlow_ok (K : Nat) (hK : 32 ≤ K) (hK2 : K ≤ 390) (r : Int) (h0 : 0 ≤ r) (h1 : r ≤ 47185920) : fleuronref02_low.f K r = some (sinL r, cosL r) := by
  have h := sine_ok K hK r h0 h1
  unfold fix_sine.f fix_series.f at h
  unfold fleuronref02_low.f fleuronref02_series.f
  rw [rseries_loop _ 1 (.inr rfl) K _ _ _ 1 (by omega) (by omega), rseries_loop _ 0 (.inl rfl) K _ _ _ 1 (by omega) (by omega)]
  exact h
theorem rturn_loop (d : Nat) : ∀ (K : Nat) (s c q : Int), d < K → q = d → q ≤ 1000 → inF (s, c) → fleuronref02_Circle.l0 K q s c = some (rot d (s, c)) := by
  induction d with
  | zero =>
    intro K s c q hK hd h1 h2
    obtain ⟨K, rfl⟩ : ∃ m, K = m + 1 := ⟨K - 1, by omega⟩
    simp only [fleuronref02_Circle.l0]
    rw [if_neg (by omega)]; rfl
  | succ d ih =>
    intro K s c q hK hd h1 h2
    obtain ⟨K, rfl⟩ : ∃ m, K = m + 1 := ⟨K - 1, by omega⟩
    simp only [fleuronref02_Circle.l0]
    unfold inF at h2; simp only at h2
    rw [if_pos (by omega), w64 (x := -s) (by omega) (by omega), w64 (x := q - 1) (by omega) (by omega)]
    exact ih K c (-s) (q - 1) (by omega) (by omega) (by omega) (by unfold inF; simp only; omega)
theorem rcircle_ok (K : Nat) (hK : 40 ≤ K) (hK2 : K ≤ 390) (a : Int) (h0 : -1099511627776 ≤ a) (h1 : a ≤ 1099511627776) : fleuronref02_Circle.f K a = some (circle a) := by
  unfold fleuronref02_Circle.f
  rw [rdown_ok a 377487360 (by omega) (by omega) (by omega) (by omega)]
  simp only [Option.bind_some]
  have e1 : wrap64 (a / 377487360 * 377487360) = a / 377487360 * 377487360 := w64 (by omega) (by omega)
  have e2 : wrap64 (a - a / 377487360 * 377487360) = a % 377487360 := by rw [w64 (by omega) (by omega)]; omega
  rw [e1, e2]
  have hr0 : 0 ≤ a % 377487360 := by omega
  rw [Int.tdiv_eq_ediv_of_nonneg hr0]
  unfold circle
  generalize hr : a % 377487360 = r at *
  have hr1 : r < 377487360 := by omega
  have hr2 : 0 ≤ r := by omega
  have e3 : wrap64 (r / 94371840) = r / 94371840 := w64 (by omega) (by omega)
  have e4 : wrap64 (r / 94371840 * 94371840) = r / 94371840 * 94371840 := w64 (by omega) (by omega)
  have e5 : wrap64 (r - r / 94371840 * 94371840) = r % 94371840 := by rw [w64 (by omega) (by omega)]; omega
  have e6 : wrap64 (94371840 - r % 94371840) = 94371840 - r % 94371840 := w64 (by omega) (by omega)
  rw [e3, e4, e5, e6]
  obtain ⟨K, rfl⟩ : ∃ m, K = m + 1 := ⟨K - 1, by omega⟩
  have hin := low_in (r := r % 94371840) (by omega) (by omega)
  unfold low at *
  by_cases hc : r % 94371840 > 47185920
  · rw [if_pos hc] at hin ⊢
    rw [if_pos hc, rlow_ok _ (by omega) (by omega) _ (by omega) (by omega)]
    simp only [Option.bind_some, fleuronref02_Circle.j0]
    exact rturn_loop (r / 94371840).toNat _ _ _ _ (by omega) (by omega) (by omega) hin
  · rw [if_neg hc] at hin ⊢
    rw [if_neg hc, rlow_ok _ (by omega) (by omega) _ (by omega) (by omega)]
    simp only [Option.bind_some, fleuronref02_Circle.j0]
    exact rturn_loop (r / 94371840).toNat _ _ _ _ (by omega) (by omega) (by omega) hin
theorem rangle_ok (a : Int) : fleuronref02_angle.f a = some (isAngle a) := by
  unfold fleuronref02_angle.f isAngle
  by_cases h : a ≥ -1099511627776
  · rw [if_pos h, decide_eq_true (show -1099511627776 ≤ a by omega), Bool.true_and]
  · rw [if_neg h, decide_eq_false (show ¬ -1099511627776 ≤ a by omega), Bool.false_and]
theorem rsine_ok (K : Nat) (hK : 40 ≤ K) (hK2 : K ≤ 390) (a : Int) : fleuronref02_Sine.f K a = some (sineS a) := by
  unfold fleuronref02_Sine.f sineS
  rw [rangle_ok]; simp only [Option.bind_some]
  by_cases h : isAngle a = true
  · rw [if_pos h, if_pos h]
    rw [isAngle_iff] at h
    rw [rcircle_ok K hK hK2 a h.1 h.2]; rfl
  · rw [if_neg h, if_neg h]
theorem rdir_ok (K : Nat) (hK : 40 ≤ K) (hK2 : K ≤ 390) (a : Int) : fleuronref02_Dir.f K a = some (dirS a) := by
  unfold fleuronref02_Dir.f dirS
  rw [rangle_ok]; simp only [Option.bind_some]
  by_cases h : isAngle a = true
  · rw [if_pos h, if_pos h]
    rw [isAngle_iff] at h
    rw [rcircle_ok K hK hK2 a h.1 h.2]
    simp only [Option.bind_some]
    have hin := circle_in a
    generalize circle a = p at *
    unfold inF at hin
    rw [w64 (x := p.2 * 65536) (by omega) (by omega), w64 (x := p.1 * 65536) (by omega) (by omega), rnear_ok _ _ (by omega) (by omega) (by omega) (by omega), rnear_ok _ _ (by omega) (by omega) (by omega) (by omega)]
    simp only [Option.bind_some]
    rw [show (2 * (p.2 * 65536) + 268435456) / (2 * 268435456) = (p.2 + 2048) / 4096 by omega, show (2 * (p.1 * 65536) + 268435456) / (2 * 268435456) = (p.1 + 2048) / 4096 by omega]
  · rw [if_neg h, if_neg h]
theorem rturn_ok (K : Nat) (hK : 41 ≤ K) (hK2 : K ≤ 390) (x y a : Int) : fleuronref02_Turn.f K x y a = some (turnS x y a) := by
  unfold fleuronref02_Turn.f turnS
  obtain ⟨K, rfl⟩ : ∃ m, K = m + 4 := ⟨K - 4, by omega⟩
  rw [ris_two]; simp only [Option.bind_some]
  by_cases h : (isFix x && isFix y) = true
  · rw [if_pos h, rangle_ok, h, Bool.true_and]
    simp only [Option.bind_some, fleuronref02_Turn.j0]
    by_cases ha : isAngle a = true
    · rw [ha]
      simp only [Bool.not_true, reduceIte]
      rw [if_neg (by decide)]
      rw [isAngle_iff] at ha
      rw [rcircle_ok (K + 3) (by omega) (by omega) a ha.1 ha.2]
      simp only [Option.bind_some]
      obtain ⟨h1, h2⟩ := Bool.and_eq_true_iff.1 h
      have hb := turn_bd x y h1 h2 _ (circle_in a)
      generalize circle a = p at *
      rw [w64 (x := p.2 * x) (by omega) (by omega), w64 (x := p.1 * y) (by omega) (by omega), w64 (x := p.1 * x) (by omega) (by omega), w64 (x := p.2 * y) (by omega) (by omega),
        w64 (x := p.2 * x - p.1 * y) (by omega) (by omega), w64 (x := p.1 * x + p.2 * y) (by omega) (by omega),
        rnear_ok _ _ (by omega) (by omega) (by omega) (by omega), rnear_ok _ _ (by omega) (by omega) (by omega) (by omega)]
      simp only [Option.bind_some]
      rw [ris_two]; simp only [Option.bind_some]
      unfold turn2; simp only
      rw [show (2 * (p.2 * x - p.1 * y) + 268435456) / (2 * 268435456) = (p.2 * x - p.1 * y + 134217728) / 268435456 by omega, show (2 * (p.1 * x + p.2 * y) + 268435456) / (2 * 268435456) = (p.1 * x + p.2 * y + 134217728) / 268435456 by omega]
      split <;> rfl
    · rw [Bool.eq_false_iff.2 ha]
      rfl
  · rw [if_neg h, if_neg (by simp at h ⊢; intro h1 h2; exact absurd h2 (by simp [h h1]))]
    simp only [fleuronref02_Turn.j0]
    rfl

/-! ### Arg -/
theorem circle_low (b : Int) (h0 : 0 ≤ b) (h1 : b ≤ 47185920) : circle b = (sinL b, cosL b) := by
  unfold circle low
  rw [show b % 377487360 % 94371840 = b by omega, show (b % 377487360 / 94371840).toNat = 0 by omega, if_neg (by omega)]
  rfl
theorem rarg_loop (g s : Int) (hg0 : 0 ≤ g) (hg1 : g ≤ 2147483647) (hs0 : 0 ≤ s) (hs1 : s ≤ 2147483647) (j : Nat) : ∀ (k : Nat) (a i : Int), j + 41 ≤ k → k ≤ 390 → j ≤ 26 → i = (j : Int) - 1 → 0 ≤ a → a ≤ 47185920 →
    fleuronref02_first.l0 k g s a i = some (argL j g s a) := by
  induction j with
  | zero =>
    intro k a i hk hk2 hj hi h0 h1
    obtain ⟨k, rfl⟩ : ∃ m, k = m + 1 := ⟨k - 1, by omega⟩
    simp only [fleuronref02_first.l0, argL]
    rw [if_neg (by omega)]
  | succ j ih =>
    intro k a i hk hk2 hj hi h0 h1
    obtain ⟨k, rfl⟩ : ∃ m, k = m + 1 := ⟨k - 1, by omega⟩
    have ei : i = (j : Int) := by omega
    have hp : (0 : Int) < 2 ^ j := Int.pow_pos (by omega)
    have hp1 := pow_le j (by omega)
    simp only [fleuronref02_first.l0, argL]
    rw [ei, shl_one j (by omega), if_pos (by omega), if_pos (by omega), w64 (x := a + 2 ^ j) (by omega) (by omega), w64 (x := (j : Int) - 1) (by omega) (by omega)]
    by_cases hc : a + 2 ^ j > 47185920
    · rw [if_neg (by omega), if_pos hc]
      exact ih k a _ (by omega) (by omega) (by omega) rfl h0 h1
    · rw [if_pos (by omega), if_neg hc, rcircle_ok k (by omega) (by omega) _ (by omega) (by omega), circle_low _ (by omega) (by omega)]
      simp only [Option.bind_some]
      have b1 := sinL_bound (r := a + 2 ^ j) (by omega) (by omega)
      have b2 := cosL_bound (r := a + 2 ^ j) (by omega) (by omega)
      have m1 := mul_bd (A := 268435456) (B := 2147483647) (a := sinL (a + 2 ^ j)) (b := g) (by omega) (by omega)
      have m2 := mul_bd (A := 268435456) (B := 2147483647) (a := cosL (a + 2 ^ j)) (b := s) (by omega) (by omega)
      rw [w64 (x := sinL (a + 2 ^ j) * g) (by omega) (by omega), w64 (x := cosL (a + 2 ^ j) * s) (by omega) (by omega)]
      by_cases hd : sinL (a + 2 ^ j) * g ≤ cosL (a + 2 ^ j) * s
      · rw [if_pos hd, if_pos hd]
        exact ih k _ _ (by omega) (by omega) (by omega) rfl (by omega) (by omega)
      · rw [if_neg hd, if_neg hd]
        exact ih k a _ (by omega) (by omega) (by omega) rfl h0 h1
theorem rarg_end (k : Nat) (hk : 1 ≤ k) (x y q : Int) (h0 : 0 ≤ q) (h1 : q ≤ 94371840) : fleuronref02_Arg.j1 k x y q = some (argY y (argX x q), 0) := by
  obtain ⟨k, rfl⟩ : ∃ m, k = m + 1 := ⟨k - 1, by omega⟩
  simp only [fleuronref02_Arg.j1]
  rw [w64 (x := 188743680 - q) (by omega) (by omega), w64 (x := -q) (by omega) (by omega), w64 (x := -(188743680 - q)) (by omega) (by omega)]
  unfold argY argX
  split <;> split <;> rfl
theorem mx_abs1 (a : Int) (h : isFix a = true) : mx a (wrap64 (-a)) = abs1 a := by
  have := abs_ok a h
  unfold fix_abs.f at this
  exact Option.some.inj this
theorem rarg_ok (k : Nat) (hk : 72 ≤ k) (hk2 : k ≤ 390) (x y : Int) : fleuronref02_Arg.f k x y = some (argS x y) := by
  unfold fleuronref02_Arg.f argS
  obtain ⟨k, rfl⟩ : ∃ m, k = m + 3 := ⟨k - 3, by omega⟩
  rw [ris_two]; simp only [Option.bind_some]
  by_cases h : (isFix x && isFix y) = true
  · rw [if_pos h, if_pos h]
    obtain ⟨hx, hy⟩ := Bool.and_eq_true_iff.1 h
    have bx : 0 ≤ abs1 x ∧ abs1 x ≤ 2147483647 ∧ (abs1 x = 0 ↔ x = 0) := by rw [isFix_iff] at hx; unfold abs1; split <;> omega
    have b_y : 0 ≤ abs1 y ∧ abs1 y ≤ 2147483647 ∧ (abs1 y = 0 ↔ y = 0) := by rw [isFix_iff] at hy; unfold abs1; split <;> omega
    have bm : 0 ≤ mx (abs1 x) (abs1 y) ∧ mx (abs1 x) (abs1 y) ≤ 2147483647 := by unfold mx; split <;> omega
    have bn : 0 ≤ mn (abs1 x) (abs1 y) ∧ mn (abs1 x) (abs1 y) ≤ 2147483647 ∧ mn (abs1 x) (abs1 y) ≤ mx (abs1 x) (abs1 y) := by unfold mn mx; split <;> split <;> omega
    have body : ∀ b, b = false → mx (abs1 x) (abs1 y) ≠ 0 → fleuronref02_Arg.j0 (k + 3) x y b = some (argY y (argX x (argQ x y (if mn (abs1 x) (abs1 y) < mx (abs1 x) (abs1 y) then argL 26 (mx (abs1 x) (abs1 y)) (mn (abs1 x) (abs1 y)) 0 else 47185920))), 0) := by
      intro b hb h0
      simp only [fleuronref02_Arg.j0]
      rw [hb, if_neg (by decide), mx_abs1 x hx, mx_abs1 y hy]
      unfold fleuronref02_first.f
      have fin : ∀ q, 0 ≤ q → q ≤ 47185920 → (if abs1 y > abs1 x then fleuronref02_Arg.j1 (k + 2) x y (wrap64 (94371840 - q)) else fleuronref02_Arg.j1 (k + 2) x y q) = some (argY y (argX x (argQ x y q)), 0) := by
        intro q q0 q1
        rw [w64 (x := 94371840 - q) (by omega) (by omega)]
        unfold argQ
        split
        · exact rarg_end _ (by omega) x y _ (by omega) (by omega)
        · exact rarg_end _ (by omega) x y _ (by omega) (by omega)
      by_cases h1 : mn (abs1 x) (abs1 y) < mx (abs1 x) (abs1 y)
      · rw [if_neg (by omega), if_pos h1, rarg_loop _ _ bm.1 bm.2 bn.1 bn.2.1 26 _ 0 25 (by omega) (by omega) (by omega) (by omega) (by omega) (by omega)]
        simp only [Option.bind_some]
        have hl := argL_bd 26 (mx (abs1 x) (abs1 y)) (mn (abs1 x) (abs1 y)) 0 (by omega) (by omega)
        exact fin _ hl.1 hl.2
      · rw [if_pos (by omega), if_neg h1]
        simp only [Option.bind_some]
        exact fin _ (by omega) (by omega)
    by_cases hx0 : x = 0
    · rw [if_pos hx0]
      by_cases hy0 : y = 0
      · have hm : mx (abs1 x) (abs1 y) = 0 := by unfold mx; split <;> omega
        rw [if_pos hm, show (y == 0) = true by simp [hy0]]
        simp only [fleuronref02_Arg.j0]
        rfl
      · have hm : mx (abs1 x) (abs1 y) ≠ 0 := by unfold mx; split <;> omega
        rw [if_neg hm]
        exact body _ (by simp [hy0]) hm
    · have hm : mx (abs1 x) (abs1 y) ≠ 0 := by unfold mx; split <;> omega
      rw [if_neg hx0, if_neg hm]
      exact body _ rfl hm
  · rw [if_neg h, if_neg h]
end Go.Proofs.YtjaifahodfljkaaGreatDoor.Z
