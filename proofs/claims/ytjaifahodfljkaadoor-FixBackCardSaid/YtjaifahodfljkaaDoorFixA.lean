/-
  The plain laws of the package fix: what its printed functions compute (mulS, divS, sqrtS, hypotS, sineS, dirS, turnS, argS), and what of it the statements ask: roots, the circle's squares, quarters.
-/
import Derived.Test.YtjaifahodfljkaaDoorZx1
import Derived.Test.YtjaifahodfljkaaDoorZx2
import Derived.Test.YtjaifahodfljkaaDoorZx3
import Derived.Test.YtjaifahodfljkaaDoorZx4
namespace Go.Proofs.YtjaifahodfljkaaDoor.Z
open Go Go.RowKit Go.Proofs.YtjaifahodfljkaaDoorW.PrintWords Go.Proofs.YtjaifahodfljkaaDoorW.PrintMore

/-! ### Words -/
theorem w64 {x : Int} (h0 : -9223372036854775808 ≤ x) (h1 : x ≤ 9223372036854775807) : wrap64 x = x := by unfold wrap64; omega
theorem u64 {x : Int} (h0 : 0 ≤ x) (h1 : x ≤ 18446744073709551615) : IntKind.u64.wrap x = x := by
  unfold IntKind.wrap
  simp [IntKind.bits, IntKind.signed]
  omega

/-- floor(a / b) -/
theorem floor_ok (a b : Int) (hb : 0 < b) (hb1 : b ≤ 9223372036854775807) (h0 : -9223372036854775807 ≤ a) (h1 : a ≤ 9223372036854775807) : fix_Floor.f a b = some (a / b) := by
  unfold fix_Floor.f
  rw [if_neg (by omega)]
  by_cases ha : 0 ≤ a
  · have e1 : Int.tmod a b = a % b := Int.tmod_eq_emod_of_nonneg ha
    have e2 : Int.tdiv a b = a / b := Int.tdiv_eq_ediv_of_nonneg ha
    have hm := Int.emod_nonneg a (show b ≠ 0 by omega)
    have q0 : 0 ≤ a / b := Int.ediv_nonneg ha (by omega)
    have q1 : a / b ≤ a := Int.ediv_le_self _ ha
    rw [e1, e2, if_neg (by omega), w64 (by omega) (by omega)]
  · have e1 : Int.tmod a b = -(Int.tmod (-a) b) := by rw [← Int.neg_tmod, Int.neg_neg]
    have e2 : Int.tdiv a b = -(Int.tdiv (-a) b) := by rw [← Int.neg_tdiv, Int.neg_neg]
    rw [Int.tmod_eq_emod_of_nonneg (show 0 ≤ -a by omega)] at e1
    rw [Int.tdiv_eq_ediv_of_nonneg (show 0 ≤ -a by omega)] at e2
    have hm := Int.emod_nonneg (-a) (show b ≠ 0 by omega)
    have hm2 := Int.emod_lt_of_pos (-a) hb
    have q0 : 0 ≤ -a / b := Int.ediv_nonneg (by omega) (by omega)
    have q1 : -a / b ≤ -a := Int.ediv_le_self _ (by omega)
    have hd := Int.mul_ediv_add_emod (-a) b
    rw [e1, e2]
    have key : ∀ q r : Int, b * q + r = a → 0 ≤ r → r < b → a / b = q := by
      intro q r h h0 h1
      have : a / b = (r + b * q) / b := by rw [← h, Int.add_comm]
      rw [this, Int.add_mul_ediv_left _ _ (by omega), Int.ediv_eq_zero_of_lt h0 h1]; omega
    by_cases hz : -a % b = 0
    · rw [if_neg (by omega), w64 (by omega) (by omega)]
      rw [key (-(-a / b)) 0 (by rw [Int.mul_neg]; omega) (by omega) (by omega)]
    · rw [if_pos (by omega), w64 (x := -(-a / b)) (by omega) (by omega), w64 (by omega) (by omega)]
      rw [key (-(-a / b) - 1) (b - (-a % b)) (by rw [Int.mul_sub, Int.mul_neg]; omega) (by omega) (by omega)]

theorem round_ok (a b : Int) (hb : 0 < b) (hb1 : b ≤ 4611686018427387903) (h0 : -4611686018427387903 ≤ 2 * a + b) (h1 : 2 * a + b ≤ 9223372036854775807) (h2 : -4611686018427387903 ≤ a) (h3 : a ≤ 4611686018427387903) : fix_Round.f a b = some ((2 * a + b) / (2 * b)) := by
  unfold fix_Round.f
  rw [w64 (x := 2 * a) (by omega) (by omega), w64 (x := 2 * a + b) (by omega) (by omega), w64 (x := 2 * b) (by omega) (by omega)]
  rw [floor_ok _ _ (by omega) (by omega) (by omega) (by omega)]
  rfl

/-! ### fixed, result -/
def isFix (a : Int) : Bool := decide (-2147483647 ≤ a) && decide (a ≤ 2147483647)
theorem isFix_iff (a : Int) : isFix a = true ↔ -2147483647 ≤ a ∧ a ≤ 2147483647 := by simp [isFix]
theorem isFix_not (a : Int) : isFix a = false ↔ (a < -2147483647 ∨ 2147483647 < a) := by
  rw [← Bool.not_eq_true, isFix_iff]; omega
theorem rd_c0 (a : Int) (l : List Int) : rd (a :: l) 0 = a := rfl
theorem rd_c1 (a b : Int) (l : List Int) : rd (a :: b :: l) 1 = b := rfl
theorem w01 : wrap64 (0 + 1) = 1 := by unfold wrap64; decide
theorem w12 : wrap64 (1 + 1) = 2 := by unfold wrap64; decide
theorem fixed_one (k : Nat) (a : Int) : fix_fixed.f (k + 2) [a] = some (isFix a) := by
  simp only [fix_fixed.f, fix_fixed.l0, rd_c0, List.length_cons, List.length_nil, w01]
  by_cases h1 : a < -2147483647
  · simp [h1, (isFix_not a).2 (Or.inl h1)]
  · by_cases h2 : a > 2147483647
    · simp [h1, h2, (isFix_not a).2 (Or.inr h2)]
    · simp [h1, h2, (isFix_iff a).2 (by omega)]
theorem fixed_two (k : Nat) (a b : Int) : fix_fixed.f (k + 3) [a, b] = some (isFix a && isFix b) := by
  simp only [fix_fixed.f, fix_fixed.l0, rd_c0, rd_c1, List.length_cons, List.length_nil, w01, w12]
  by_cases h1 : a < -2147483647
  · simp [h1, (isFix_not a).2 (Or.inl h1)]
  · by_cases h2 : a > 2147483647
    · simp [h1, h2, (isFix_not a).2 (Or.inr h2)]
    · have ea := (isFix_iff a).2 (by omega)
      by_cases h3 : b < -2147483647
      · simp [h1, h2, h3, ea, (isFix_not b).2 (Or.inl h3)]
      · by_cases h4 : b > 2147483647
        · simp [h1, h2, h3, h4, ea, (isFix_not b).2 (Or.inr h4)]
        · simp [h1, h2, h3, h4, ea, (isFix_iff b).2 (by omega)]
def told (a : Int) : Int × Int := if isFix a = true then (a, 0) else (0, 17)
theorem result_ok (k : Nat) (a : Int) : fix_result.f (k + 2) a = some (told a) := by
  unfold fix_result.f told
  rw [fixed_one]; simp only [Option.bind_some]
  split <;> rfl

/-! ### Root -/
/-- The rounds from bit j on. -/
def rootL : Nat → Int → Int → Int
  | 0, _, r => r
  | j + 1, n, r => if (r + 2 ^ j) * (r + 2 ^ j) ≤ n then rootL j n (r + 2 ^ j) else rootL j n r
theorem rootL_spec (j : Nat) : ∀ (n r : Int), 0 ≤ r → r * r ≤ n → n < (r + 2 ^ j) * (r + 2 ^ j) →
    0 ≤ rootL j n r ∧ rootL j n r * rootL j n r ≤ n ∧ n < (rootL j n r + 1) * (rootL j n r + 1) := by
  induction j with
  | zero => intro n r h0 h1 h2; simp only [rootL, Int.pow_zero] at *; exact ⟨h0, h1, h2⟩
  | succ j ih =>
    intro n r h0 h1 h2
    have hp : (0 : Int) < 2 ^ j := Int.pow_pos (by omega)
    rw [Int.pow_succ] at h2
    unfold rootL
    split
    · rename_i h
      exact ih n _ (by omega) h (by rw [show r + 2 ^ j + 2 ^ j = r + 2 ^ j * 2 by omega]; exact h2)
    · rename_i h
      exact ih n r h0 h1 (by omega)
theorem rootL_le (j : Nat) : ∀ (n r : Int), r ≤ rootL j n r ∧ rootL j n r ≤ r + 2 ^ j - 1 := by
  induction j with
  | zero => intro n r; simp [rootL]
  | succ j ih =>
    intro n r
    have hp : (0 : Int) < 2 ^ j := Int.pow_pos (by omega)
    unfold rootL
    rw [Int.pow_succ]
    split
    · have := ih n (r + 2 ^ j); omega
    · have := ih n r; omega
def rootE (n q : Int) : Option Int := if n - q * q > q then some (wrap64 (IntKind.u64.wrap (q + 1))) else some (wrap64 q)
theorem root_loop (j : Nat) : ∀ (k : Nat) (n r : Int), j < k → 0 ≤ r → r + 2 ^ j ≤ 4294967296 → n ≤ 18446744073709551615 → 0 ≤ n → r * r ≤ n →
    ∀ p : Int, p = 2 ^ j / 2 → 
    fix_Root.l0 k n r p = rootE n (rootL j n r) := by
  induction j with
  | zero =>
    intro k n r hk h0 h1 h2 h3 h4 p hp
    obtain ⟨k, rfl⟩ : ∃ m, k = m + 1 := ⟨k - 1, by omega⟩
    rw [hp]
    simp only [fix_Root.l0, rootL]
    have e : (2 : Int) ^ 0 / 2 = 0 := by decide
    rw [e, if_neg (by omega)]
    have hr : r * r ≤ n := h4
    have hrr : 0 ≤ r * r := Int.mul_nonneg h0 h0
    rw [u64 (x := r * r) hrr (by omega), u64 (x := n - r * r) (by omega) (by omega)]
    rfl
  | succ j ih =>
    intro k n r hk h0 h1 h2 h3 h4 p hp
    obtain ⟨k, rfl⟩ : ∃ m, k = m + 1 := ⟨k - 1, by omega⟩
    have hpj : (0 : Int) < 2 ^ j := Int.pow_pos (by omega)
    rw [Int.pow_succ] at h1 hp
    have hp2 : p = 2 ^ j := by omega
    subst hp2
    clear hp
    have hs : r + 2 ^ j < 4294967296 := by omega
    have hsq : (r + 2 ^ j) * (r + 2 ^ j) ≤ 4294967295 * 4294967295 := Int.mul_le_mul (by omega) (by omega) (by omega) (by omega)
    have hsq0 : 0 ≤ (r + 2 ^ j) * (r + 2 ^ j) := Int.mul_nonneg (by omega) (by omega)
    simp only [fix_Root.l0]
    have hR : rootL (j + 1) n r = if (r + 2 ^ j) * (r + 2 ^ j) ≤ n then rootL j n (r + 2 ^ j) else rootL j n r := rfl
    rw [hR, if_pos hpj, u64 (x := r + 2 ^ j) (by omega) (by omega), u64 (x := (r + 2 ^ j) * (r + 2 ^ j)) hsq0 (by omega)]
    by_cases hc : (r + 2 ^ j) * (r + 2 ^ j) ≤ n
    · rw [if_pos hc, if_pos hc]
      exact ih k n _ (by omega) (by omega) (by omega) h2 h3 hc _ rfl
    · rw [if_neg hc, if_neg hc]
      exact ih k n r (by omega) h0 (by omega) h2 h3 h4 _ rfl
def rooted (n : Int) : Int := let r := rootL 32 n 0; if n - r * r > r then r + 1 else r
theorem root_ok (k : Nat) (hk : 33 ≤ k) (n : Int) (h0 : 0 ≤ n) (h1 : n ≤ 9223372036854775807) : fix_Root.f k n = some (rooted n) := by
  unfold fix_Root.f rooted
  have h := root_loop 32 k n 0 (by omega) (by omega) (by decide) (by omega) h0 (by simpa using h0) 2147483648 (by decide)
  rw [h]
  have hl := rootL_le 32 n 0
  have e : (0 : Int) + 2 ^ 32 - 1 = 4294967295 := by decide
  rw [e] at hl
  unfold rootE
  generalize rootL 32 n 0 = q at *
  rw [u64 (by omega) (by omega), w64 (by omega) (by omega), w64 (by omega) (by omega)]
  simp only
  split <;> rfl
/-- What the root is. -/
theorem rooted_spec (n : Int) (h0 : 0 ≤ n) (h1 : n ≤ 9223372036854775807) :
    ∃ r, 0 ≤ r ∧ r * r ≤ n ∧ n < (r + 1) * (r + 1) ∧ ((n - r * r > r ∧ rooted n = r + 1) ∨ (n - r * r ≤ r ∧ rooted n = r)) := by
  obtain ⟨a, b, c⟩ := rootL_spec 32 n 0 (by omega) (by simpa using h0) (by have e : ((0 : Int) + 2 ^ 32) * (0 + 2 ^ 32) = 18446744073709551616 := by decide
                                                                           omega)
  refine ⟨_, a, b, c, ?_⟩
  unfold rooted
  by_cases h : n - rootL 32 n 0 * rootL 32 n 0 > rootL 32 n 0
  · left; exact ⟨h, by simp only; rw [if_pos h]⟩
  · right; exact ⟨by omega, by simp only; rw [if_neg h]⟩
theorem rooted_le (n : Int) : 0 ≤ rooted n ∧ rooted n ≤ 4294967296 := by
  have hl := rootL_le 32 n 0
  have e : (0 : Int) + 2 ^ 32 - 1 = 4294967295 := by decide
  rw [e] at hl
  unfold rooted; simp only; split <;> omega
def hypotS (a b : Int) : Int × Int := if (isFix a && isFix b) = true then told (rooted (a * a + b * b)) else (0, 2)
def sqrtS (a : Int) : Int × Int := if isFix a = true then (if a < 0 then (0, 17) else told (rooted (a * 65536))) else (0, 2)
theorem umul (a : Int) (h0 : -2147483647 ≤ a) (h1 : a ≤ 2147483647) : IntKind.u64.wrap (IntKind.u64.wrap a * IntKind.u64.wrap a) = a * a ∧ 0 ≤ a * a ∧ a * a ≤ 4611686014132420609 := by
  have hs : 0 ≤ a * a ∧ a * a ≤ 4611686014132420609 := by
    by_cases h : 0 ≤ a
    · exact ⟨Int.mul_nonneg h h, Int.le_trans (Int.mul_le_mul h1 h1 h (by omega)) (by decide)⟩
    · rw [show a * a = -a * -a by rw [Int.neg_mul_neg]]
      exact ⟨Int.mul_nonneg (by omega) (by omega), Int.le_trans (Int.mul_le_mul (show -a ≤ 2147483647 by omega) (show -a ≤ 2147483647 by omega) (by omega) (by omega)) (by decide)⟩
  refine ⟨?_, hs⟩
  by_cases h : 0 ≤ a
  · rw [u64 (x := a) h (by omega), u64 hs.1 (by omega)]
  · have e : IntKind.u64.wrap a = a + 18446744073709551616 := by
      unfold IntKind.wrap; simp [IntKind.bits, IntKind.signed]; omega
    rw [e]
    have e2 : (a + 18446744073709551616) * (a + 18446744073709551616) = a * a + 18446744073709551616 * (2 * a + 18446744073709551616) := by grind
    rw [e2]
    unfold IntKind.wrap; simp [IntKind.bits, IntKind.signed]
    omega
theorem hypot_ok (k : Nat) (hk : 33 ≤ k) (a b : Int) : fix_Hypot.f k a b = some (hypotS a b) := by
  unfold fix_Hypot.f hypotS
  obtain ⟨k, rfl⟩ : ∃ m, k = m + 3 := ⟨k - 3, by omega⟩
  rw [fixed_two]; simp only [Option.bind_some]
  by_cases h : (isFix a && isFix b) = true
  · rw [if_pos h, if_pos h]
    obtain ⟨h1, h2⟩ := Bool.and_eq_true_iff.1 h
    rw [isFix_iff] at h1 h2
    obtain ⟨a1, a2, a3⟩ := umul a h1.1 h1.2
    obtain ⟨b1, b2, b3⟩ := umul b h2.1 h2.2
    rw [a1, b1, u64 (by omega) (by omega), root_ok _ hk _ (by omega) (by omega)]
    simp only [Option.bind_some]
    rw [result_ok]; rfl
  · rw [if_neg h, if_neg h]
theorem sqrt_ok (k : Nat) (hk : 33 ≤ k) (a : Int) : fix_Sqrt.f k a = some (sqrtS a) := by
  unfold fix_Sqrt.f sqrtS
  obtain ⟨k, rfl⟩ : ∃ m, k = m + 2 := ⟨k - 2, by omega⟩
  rw [fixed_one]; simp only [Option.bind_some]
  by_cases h : isFix a = true
  · rw [if_pos h, if_pos h]
    rw [isFix_iff] at h
    by_cases h0 : a < 0
    · rw [if_pos h0, if_pos h0]
    · rw [if_neg h0, if_neg h0, u64 (x := a) (by omega) (by omega), u64 (by omega) (by omega), root_ok _ hk _ (by omega) (by omega)]
      simp only [Option.bind_some]
      rw [result_ok]; rfl
  · rw [if_neg h, if_neg h]

/-! ### The series -/
def nextU (u t k : Int) : Int := u * t / 1073741824 * t / 1073741824 / (k * (k + 1))
def ser : Nat → Int → Int → Int → Int → Int → Int
  | 0, _, _, sum, _, _ => sum
  | n + 1, u, t, sum, sg, k => if u = 0 then sum else ser n (nextU u t k) t (sum + sg * u) (-sg) (k + 2)
theorem nextU_le {u t k : Int} (hu : 0 ≤ u) (ht : 0 ≤ t) (ht1 : t ≤ 1073741824) (hk : 1 ≤ k) : 0 ≤ nextU u t k ∧ 2 * nextU u t k ≤ u := by
  unfold nextU
  have a1 : u * t ≤ u * 1073741824 := Int.mul_le_mul_of_nonneg_left ht1 hu
  have a0 : 0 ≤ u * t := Int.mul_nonneg hu ht
  have b0 : 0 ≤ u * t / 1073741824 := by omega
  have b1 : u * t / 1073741824 ≤ u := by omega
  generalize u * t / 1073741824 = v at *
  have c1 : v * t ≤ v * 1073741824 := Int.mul_le_mul_of_nonneg_left ht1 b0
  have c0 : 0 ≤ v * t := Int.mul_nonneg b0 ht
  have d0 : 0 ≤ v * t / 1073741824 := by omega
  have d1 : v * t / 1073741824 ≤ u := by omega
  generalize v * t / 1073741824 = x at *
  have k2 : 2 ≤ k * (k + 1) := by
    have := Int.mul_le_mul (show (1 : Int) ≤ k from hk) (show (2 : Int) ≤ k + 1 by omega) (by omega) (by omega)
    omega
  generalize k * (k + 1) = d at *
  have e0 : 0 ≤ x / d := Int.ediv_nonneg d0 (by omega)
  have e1 : d * (x / d) ≤ x := Int.mul_ediv_self_le (by omega)
  have e2 : 2 * (x / d) ≤ d * (x / d) := Int.mul_le_mul_of_nonneg_right k2 e0
  exact ⟨e0, by omega⟩
theorem series_loop (t : Int) (ht : 0 ≤ t) (ht1 : t ≤ 1073741824) (n : Nat) : ∀ (K : Nat) (u sum sg k : Int), n < K → 0 ≤ u → u < 2 ^ n → u ≤ 2147483648 →
    (sg = 1 ∨ sg = -1) → -8589934592 ≤ sum - 2 * u → sum + 2 * u ≤ 8589934592 → 1 ≤ k → k + 2 * n ≤ 1000 →
    fix_series.l0 K u t sum sg k = some ((ser n u t sum sg k + 2) / 4) := by
  induction n with
  | zero =>
    intro K u sum sg k hK h0 h1 h2 h3 h4 h5 h6 h7
    obtain ⟨K, rfl⟩ : ∃ m, K = m + 1 := ⟨K - 1, by omega⟩
    have : u = 0 := by simp at h1; omega
    simp only [fix_series.l0, ser]
    rw [if_pos this, w64 (by omega) (by omega)]
  | succ n ih =>
    intro K u sum sg k hK h0 h1 h2 h3 h4 h5 h6 h7
    obtain ⟨K, rfl⟩ : ∃ m, K = m + 1 := ⟨K - 1, by omega⟩
    simp only [fix_series.l0, ser]
    by_cases hu : u = 0
    · rw [if_pos hu, if_pos hu, w64 (by omega) (by omega)]
    · rw [if_neg hu, if_neg hu]
      obtain ⟨n0, n1⟩ := nextU_le (u := u) (k := k) h0 ht ht1 h6
      have kk : k * (k + 1) ≤ 1000 * 1001 := Int.mul_le_mul (by omega) (by omega) (by omega) (by omega)
      have k2 : 1 * 2 ≤ k * (k + 1) := Int.mul_le_mul (by omega) (by omega) (by omega) (by omega)
      have a1 : u * t ≤ 2147483648 * 1073741824 := Int.mul_le_mul h2 ht1 ht (by omega)
      have a0 : 0 ≤ u * t := Int.mul_nonneg h0 ht
      have e1 : wrap64 (u * t) = u * t := w64 (by omega) (by omega)
      have b0 : 0 ≤ u * t / 1073741824 := by omega
      have c1 : u * t / 1073741824 * t ≤ 2147483648 * 1073741824 := Int.mul_le_mul (by omega) ht1 ht (by omega)
      have c0 : 0 ≤ u * t / 1073741824 * t := Int.mul_nonneg b0 ht
      have e2 : wrap64 (u * t / 1073741824 * t) = u * t / 1073741824 * t := w64 (by omega) (by omega)
      have e3 : wrap64 (k + 1) = k + 1 := w64 (by omega) (by omega)
      have e4 : wrap64 (k * (k + 1)) = k * (k + 1) := w64 (by omega) (by omega)
      have d0 : 0 ≤ u * t / 1073741824 * t / 1073741824 := by omega
      have e5 : Int.tdiv (u * t / 1073741824 * t / 1073741824) (k * (k + 1)) = nextU u t k := by rw [Int.tdiv_eq_ediv_of_nonneg d0]; rfl
      have e6 : wrap64 (nextU u t k) = nextU u t k := w64 (by omega) (by omega)
      have e7 : wrap64 (sg * u) = sg * u := by rcases h3 with rfl | rfl <;> exact w64 (by omega) (by omega)
      have e8 : wrap64 (sum + sg * u) = sum + sg * u := by rcases h3 with rfl | rfl <;> exact w64 (by omega) (by omega)
      have e9 : wrap64 (-sg) = -sg := by rcases h3 with rfl | rfl <;> exact w64 (by omega) (by omega)
      have e10 : wrap64 (k + 2) = k + 2 := w64 (by omega) (by omega)
      rw [e1, e2, e3, e4, if_neg (by omega), e5, e6, e7, e8, e9, e10]
      rw [Int.pow_succ] at h1
      apply ih K _ _ _ _ (by omega) n0 (by omega) (by omega) (by rcases h3 with rfl | rfl <;> simp) _ _ (by omega) (by omega)
      · rcases h3 with rfl | rfl <;> omega
      · rcases h3 with rfl | rfl <;> omega
def tOf (r : Int) : Int := (76760392275 * r + 2147483648) / 4294967296
def sinL (r : Int) : Int := (ser 31 (tOf r) (tOf r) 0 1 2 + 2) / 4
def cosL (r : Int) : Int := (ser 31 1073741824 (tOf r) 0 1 1 + 2) / 4
theorem tOf_le {r : Int} (h0 : 0 ≤ r) (h1 : r ≤ 47185920) : 0 ≤ tOf r ∧ tOf r ≤ 843314857 := by unfold tOf; omega
theorem sine_ok (K : Nat) (hK : 32 ≤ K) (r : Int) (h0 : 0 ≤ r) (h1 : r ≤ 47185920) : fix_sine.f K r = some (sinL r, cosL r) := by
  obtain ⟨t0, t1⟩ := tOf_le h0 h1
  unfold fix_sine.f fix_series.f
  rw [w64 (x := 76760392275 * r) (by omega) (by omega), w64 (x := 76760392275 * r + 2147483648) (by omega) (by omega)]
  rw [show (76760392275 * r + 2147483648) / 4294967296 = tOf r from rfl]
  have e : (2 : Int) ^ 31 = 2147483648 := by decide
  rw [series_loop (tOf r) t0 (by omega) 31 K (tOf r) 0 1 2 (by omega) t0 (by omega) (by omega) (.inl rfl) (by omega) (by omega) (by omega) (by omega)]
  simp only [Option.bind_some]
  rw [series_loop (tOf r) t0 (by omega) 31 K 1073741824 0 1 1 (by omega) (by omega) (by omega) (by omega) (.inl rfl) (by omega) (by omega) (by omega) (by omega)]
  rfl

/-! ### Bounds: the sum lies between 0 and its first term, nearly -/
theorem ser_bound (t : Int) (ht : 0 ≤ t) (ht1 : t ≤ 1073741824) (n : Nat) : ∀ (u sum sg k : Int), 0 ≤ u → 1 ≤ k → (sg = 1 ∨ sg = -1) →
    (sg = 1 → sum ≤ ser n u t sum sg k ∧ ser n u t sum sg k ≤ sum + u) ∧ (sg = -1 → sum - u ≤ ser n u t sum sg k ∧ ser n u t sum sg k ≤ sum) := by
  induction n with
  | zero => intro u sum sg k h0 h1 h2; simp only [ser]; omega
  | succ n ih =>
    intro u sum sg k h0 h1 h2
    simp only [ser]
    by_cases hu : u = 0
    · rw [if_pos hu]; omega
    · rw [if_neg hu]
      obtain ⟨n0, n1⟩ := nextU_le (u := u) (k := k) h0 ht ht1 h1
      have := ih (nextU u t k) (sum + sg * u) (-sg) (k + 2) n0 (by omega) (by omega)
      rcases h2 with rfl | rfl
      · simp at this ⊢; omega
      · simp at this ⊢; omega
theorem sinL_bound {r : Int} (h0 : 0 ≤ r) (h1 : r ≤ 47185920) : 0 ≤ sinL r ∧ sinL r ≤ 268435456 := by
  obtain ⟨t0, t1⟩ := tOf_le h0 h1
  have := (ser_bound (tOf r) t0 (by omega) 31 (tOf r) 0 1 2 t0 (by omega) (.inl rfl)).1 rfl
  unfold sinL; omega
theorem cosL_bound {r : Int} (h0 : 0 ≤ r) (h1 : r ≤ 47185920) : 0 ≤ cosL r ∧ cosL r ≤ 268435456 := by
  obtain ⟨t0, t1⟩ := tOf_le h0 h1
  have := (ser_bound (tOf r) t0 (by omega) 31 1073741824 0 1 1 (by omega) (by omega) (.inl rfl)).1 rfl
  unfold cosL; omega

/-! ### Sine -/
def low (r : Int) : Int × Int := if r > 47185920 then (cosL (94371840 - r), sinL (94371840 - r)) else (sinL r, cosL r)
def rot : Nat → Int × Int → Int × Int
  | 0, p => p
  | n + 1, p => rot n (p.2, -p.1)
def circle (a : Int) : Int × Int := rot (a % 377487360 / 94371840).toNat (low (a % 377487360 % 94371840))
def isAngle (a : Int) : Bool := decide (-1099511627776 ≤ a) && decide (a ≤ 1099511627776)
def sineS (a : Int) : Int × Int × Int := if isAngle a = true then ((circle a).1, (circle a).2, 0) else (0, 0, 2)
def inF (p : Int × Int) : Prop := -268435456 ≤ p.1 ∧ p.1 ≤ 268435456 ∧ -268435456 ≤ p.2 ∧ p.2 ≤ 268435456
theorem rot_in (n : Nat) : ∀ p, inF p → inF (rot n p) := by
  induction n with
  | zero => intro p h; exact h
  | succ n ih => intro p h; refine ih _ ?_; unfold inF at *; simp only; omega
theorem low_in {r : Int} (h0 : 0 ≤ r) (h1 : r ≤ 94371840) : inF (low r) := by
  unfold low inF
  split
  · have a := sinL_bound (r := 94371840 - r) (by omega) (by omega)
    have b := cosL_bound (r := 94371840 - r) (by omega) (by omega)
    simp only; omega
  · have a := sinL_bound (r := r) (by omega) (by omega)
    have b := cosL_bound (r := r) (by omega) (by omega)
    simp only; omega
theorem circle_in (a : Int) : inF (circle a) := rot_in _ _ (low_in (by omega) (by omega))
theorem turn_loop (d : Nat) : ∀ (K : Nat) (s c q i : Int), d < K → q - i = d → 0 ≤ i → q ≤ 1000 → inF (s, c) → fix_Sine.l0 K s c q i = some ((rot d (s, c)).1, (rot d (s, c)).2, 0) := by
  induction d with
  | zero =>
    intro K s c q i hK hd h0 h1 h2
    obtain ⟨K, rfl⟩ : ∃ m, K = m + 1 := ⟨K - 1, by omega⟩
    simp only [fix_Sine.l0]
    rw [if_neg (by omega)]; rfl
  | succ d ih =>
    intro K s c q i hK hd h0 h1 h2
    obtain ⟨K, rfl⟩ : ∃ m, K = m + 1 := ⟨K - 1, by omega⟩
    simp only [fix_Sine.l0]
    unfold inF at h2; simp only at h2
    rw [if_pos (by omega), w64 (x := -s) (by omega) (by omega), w64 (x := i + 1) (by omega) (by omega)]
    exact ih K c (-s) q (i + 1) (by omega) (by omega) (by omega) h1 (by unfold inF; simp only; omega)
theorem isAngle_iff (a : Int) : isAngle a = true ↔ -1099511627776 ≤ a ∧ a ≤ 1099511627776 := by simp [isAngle]
theorem Sine_ok (K : Nat) (hK : 40 ≤ K) (a : Int) : fix_Sine.f K a = some (sineS a) := by
  obtain ⟨K, rfl⟩ : ∃ m, K = m + 3 := ⟨K - 3, by omega⟩
  unfold fix_Sine.f sineS
  by_cases h : isAngle a = true
  · rw [if_pos h]
    rw [isAngle_iff] at h
    rw [if_neg (by omega), decide_eq_false (show ¬ a > 1099511627776 by omega)]
    simp only [fix_Sine.j0]
    rw [if_neg (by decide)]
    have hr : ∀ r, r = a % 377487360 → fix_Sine.j1 (K + 2) r = some ((circle a).1, (circle a).2, 0) := by
      intro r hr
      have h0 : 0 ≤ r := by omega
      have h1 : r < 377487360 := by omega
      unfold circle
      rw [← hr]
      simp only [fix_Sine.j1]
      rw [Int.tmod_eq_emod_of_nonneg h0, Int.tdiv_eq_ediv_of_nonneg h0, w64 (x := 94371840 - r % 94371840) (by omega) (by omega), w64 (x := r / 94371840) (by omega) (by omega)]
      have hm : mn (r % 94371840) (94371840 - r % 94371840) = if r % 94371840 > 47185920 then 94371840 - r % 94371840 else r % 94371840 := by
        unfold mn; split <;> split <;> omega
      rw [hm]
      have hin := low_in (r := r % 94371840) (by omega) (by omega)
      unfold low at *
      by_cases hc : r % 94371840 > 47185920
      · rw [if_pos hc] at *
        rw [if_pos hc, sine_ok _ (by omega) _ (by omega) (by omega)]
        simp only [Option.bind_some]
        rw [if_pos hc]
        simp only [fix_Sine.j2]
        exact turn_loop (r / 94371840).toNat _ _ _ _ _ (by omega) (by omega) (by omega) (by omega) hin
      · rw [if_neg hc] at *
        rw [if_neg hc, sine_ok _ (by omega) _ (by omega) (by omega)]
        simp only [Option.bind_some]
        rw [if_neg hc]
        simp only [fix_Sine.j2]
        exact turn_loop (r / 94371840).toNat _ _ _ _ _ (by omega) (by omega) (by omega) (by omega) hin
    have ht : Int.tmod a 377487360 = a % 377487360 ∨ (Int.tmod a 377487360 < 0 ∧ Int.tmod a 377487360 + 377487360 = a % 377487360) := by
      by_cases ha : 0 ≤ a
      · left; exact Int.tmod_eq_emod_of_nonneg ha
      · have e1 : Int.tmod a 377487360 = -(Int.tmod (-a) 377487360) := by rw [← Int.neg_tmod, Int.neg_neg]
        rw [Int.tmod_eq_emod_of_nonneg (show 0 ≤ -a by omega)] at e1
        omega
    rcases ht with e | ⟨e0, e1⟩
    · rw [if_neg (by omega), e]; exact hr _ rfl
    · rw [if_pos e0, w64 (by omega) (by omega), e1]; exact hr _ rfl
  · rw [if_neg h]
    have hn : a < -1099511627776 ∨ 1099511627776 < a := by
      have := mt (isAngle_iff a).2 h; omega
    by_cases h1 : a < -1099511627776
    · rw [if_pos h1]; simp only [fix_Sine.j0]; rfl
    · rw [if_neg h1, decide_eq_true (show a > 1099511627776 by omega)]; simp only [fix_Sine.j0]; rfl

theorem mul_bd {a b A B : Int} (hA : -A ≤ a ∧ a ≤ A) (hB : -B ≤ b ∧ b ≤ B) : -(A * B) ≤ a * b ∧ a * b ≤ A * B := by
  have e1 : 0 ≤ (A - a) * (B - b) := Int.mul_nonneg (by omega) (by omega)
  have e2 : 0 ≤ (A - a) * (B + b) := Int.mul_nonneg (by omega) (by omega)
  have e3 : 0 ≤ (A + a) * (B - b) := Int.mul_nonneg (by omega) (by omega)
  have e4 : 0 ≤ (A + a) * (B + b) := Int.mul_nonneg (by omega) (by omega)
  constructor <;> grind

/-! ### Mul, Div -/
def mulS (a b : Int) : Int × Int := if (isFix a && isFix b) = true then told ((a * b + 32768) / 65536) else (0, 2)
def divS (a b : Int) : Int × Int := if (isFix a && isFix b) = true then (if b = 0 then (0, 18) else if b < 0 then told ((2 * (-a * 65536) + -b) / (2 * -b)) else told ((2 * (a * 65536) + b) / (2 * b))) else (0, 2)
theorem mul_ok (k : Nat) (hk : 3 ≤ k) (a b : Int) : fix_Mul.f k a b = some (mulS a b) := by
  unfold fix_Mul.f mulS
  obtain ⟨k, rfl⟩ : ∃ m, k = m + 3 := ⟨k - 3, by omega⟩
  rw [fixed_two]; simp only [Option.bind_some]
  by_cases h : (isFix a && isFix b) = true
  · rw [if_pos h, if_pos h]
    obtain ⟨h1, h2⟩ := Bool.and_eq_true_iff.1 h
    rw [isFix_iff] at h1 h2
    have hm := mul_bd (A := 2147483647) (B := 2147483647) h1 h2
    rw [w64 (x := a * b) (by omega) (by omega), w64 (x := a * b + 32768) (by omega) (by omega), floor_ok _ _ (by omega) (by omega) (by omega) (by omega)]
    simp only [Option.bind_some]
    rw [result_ok]; rfl
  · rw [if_neg h, if_neg h]
theorem div_ok (k : Nat) (hk : 3 ≤ k) (a b : Int) : fix_Div.f k a b = some (divS a b) := by
  unfold fix_Div.f divS
  obtain ⟨k, rfl⟩ : ∃ m, k = m + 3 := ⟨k - 3, by omega⟩
  rw [fixed_two]; simp only [Option.bind_some]
  by_cases h : (isFix a && isFix b) = true
  · rw [if_pos h, if_pos h]
    obtain ⟨h1, h2⟩ := Bool.and_eq_true_iff.1 h
    rw [isFix_iff] at h1 h2
    by_cases hb : b = 0
    · rw [if_pos hb, if_pos hb]
    · rw [if_neg hb, if_neg hb]
      by_cases hb2 : b < 0
      · rw [if_pos hb2, if_pos hb2, w64 (x := -a) (by omega) (by omega), w64 (x := -a * 65536) (by omega) (by omega), w64 (x := -b) (by omega) (by omega),
          round_ok _ _ (by omega) (by omega) (by omega) (by omega) (by omega) (by omega)]
        simp only [Option.bind_some]
        rw [result_ok]; rfl
      · rw [if_neg hb2, if_neg hb2, w64 (x := a * 65536) (by omega) (by omega),
          round_ok _ _ (by omega) (by omega) (by omega) (by omega) (by omega) (by omega)]
        simp only [Option.bind_some]
        rw [result_ok]; rfl
  · rw [if_neg h, if_neg h]

/-! ### Turn, Dir -/
def turn2 (x y : Int) (p : Int × Int) : Int × Int := ((p.2 * x - p.1 * y + 134217728) / 268435456, (p.1 * x + p.2 * y + 134217728) / 268435456)
def turnS (x y a : Int) : Int × Int × Int :=
  if ((isFix x && isFix y) && isAngle a) = true then
    (if (isFix (turn2 x y (circle a)).1 && isFix (turn2 x y (circle a)).2) = true then ((turn2 x y (circle a)).1, (turn2 x y (circle a)).2, 0) else (0, 0, 17))
  else (0, 0, 2)
theorem turn_bd (x y : Int) (hx : isFix x = true) (hy : isFix y = true) (p : Int × Int) (hp : inF p) :
    -1152921504606846976 ≤ p.2 * x - p.1 * y ∧ p.2 * x - p.1 * y ≤ 1152921504606846976 ∧ -1152921504606846976 ≤ p.1 * x + p.2 * y ∧ p.1 * x + p.2 * y ≤ 1152921504606846976 ∧
    (-576460752303423488 ≤ p.2 * x ∧ p.2 * x ≤ 576460752303423488) ∧ (-576460752303423488 ≤ p.1 * x ∧ p.1 * x ≤ 576460752303423488) ∧ (-576460752303423488 ≤ p.2 * y ∧ p.2 * y ≤ 576460752303423488) ∧ (-576460752303423488 ≤ p.1 * y ∧ p.1 * y ≤ 576460752303423488) := by
  rw [isFix_iff] at hx hy
  unfold inF at hp
  have a1 := mul_bd (A := 268435456) (B := 2147483647) ⟨hp.2.2.1, hp.2.2.2⟩ hx
  have a2 := mul_bd (A := 268435456) (B := 2147483647) ⟨hp.1, hp.2.1⟩ hx
  have a3 := mul_bd (A := 268435456) (B := 2147483647) ⟨hp.2.2.1, hp.2.2.2⟩ hy
  have a4 := mul_bd (A := 268435456) (B := 2147483647) ⟨hp.1, hp.2.1⟩ hy
  omega
theorem turn_ok (k : Nat) (hk : 40 ≤ k) (x y a : Int) : fix_Turn.f k x y a = some (turnS x y a) := by
  unfold fix_Turn.f turnS
  rw [Sine_ok k hk]; simp only [Option.bind_some]
  obtain ⟨k, rfl⟩ : ∃ m, k = m + 5 := ⟨k - 5, by omega⟩
  rw [fixed_two]; simp only [Option.bind_some]
  by_cases h : (isFix x && isFix y) = true
  · rw [if_pos h, h, Bool.true_and]
    unfold sineS
    by_cases ha : isAngle a = true
    · rw [if_pos ha, if_pos ha]
      obtain ⟨h1, h2⟩ := Bool.and_eq_true_iff.1 h
      have hin := circle_in a
      have hb := turn_bd x y h1 h2 _ hin
      simp only [fix_Turn.j0]
      generalize circle a = p at *
      rw [show ((0 : Int) != 0) = false from rfl, if_neg (by decide)]
      rw [w64 (x := p.2 * x) (by omega) (by omega), w64 (x := p.1 * y) (by omega) (by omega), w64 (x := p.1 * x) (by omega) (by omega), w64 (x := p.2 * y) (by omega) (by omega),
        w64 (x := p.2 * x - p.1 * y) (by omega) (by omega), w64 (x := p.1 * x + p.2 * y) (by omega) (by omega),
        w64 (x := p.2 * x - p.1 * y + 134217728) (by omega) (by omega), w64 (x := p.1 * x + p.2 * y + 134217728) (by omega) (by omega),
        floor_ok _ _ (by omega) (by omega) (by omega) (by omega), floor_ok _ _ (by omega) (by omega) (by omega) (by omega)]
      simp only [Option.bind_some]
      rw [fixed_two]; simp only [Option.bind_some]
      unfold turn2; simp only
      split <;> rfl
    · rw [if_neg ha, if_neg ha]
      simp only [fix_Turn.j0]
      rfl
  · rw [if_neg h, if_neg (by simp at h ⊢; intro h1 h2; exact absurd h2 (by simp [h h1]))]
    simp only [fix_Turn.j0]
    rfl
def dirS (a : Int) : Int × Int × Int := if isAngle a = true then (((circle a).2 + 2048) / 4096, ((circle a).1 + 2048) / 4096, 0) else (0, 0, 2)
theorem dir_ok (k : Nat) (hk : 40 ≤ k) (a : Int) : fix_Dir.f k a = some (dirS a) := by
  unfold fix_Dir.f dirS
  rw [Sine_ok k hk]; simp only [Option.bind_some]
  unfold sineS
  by_cases ha : isAngle a = true
  · rw [if_pos ha, if_pos ha]
    have hin := circle_in a
    generalize circle a = p at *
    unfold inF at hin
    rw [if_pos rfl, w64 (x := p.2 + 2048) (by omega) (by omega), w64 (x := p.1 + 2048) (by omega) (by omega),
      floor_ok _ _ (by omega) (by omega) (by omega) (by omega), floor_ok _ _ (by omega) (by omega) (by omega) (by omega)]
    rfl
  · rw [if_neg ha, if_neg ha]
    rw [if_neg (by decide)]

/-! ### Arg -/
def abs1 (a : Int) : Int := if a < 0 then -a else a
theorem abs_ok (a : Int) (h : isFix a = true) : fix_abs.f a = some (abs1 a) := by
  rw [isFix_iff] at h
  unfold fix_abs.f mx abs1
  rw [w64 (by omega) (by omega)]
  split <;> split <;> first | rfl | (exfalso; omega) | (congr 1; omega)
/-- The rounds from bit j - 1 on. -/
def argL : Nat → Int → Int → Int → Int
  | 0, _, _, a => a
  | j + 1, g, s, a => if a + 2 ^ j > 47185920 then argL j g s a else if sinL (a + 2 ^ j) * g ≤ cosL (a + 2 ^ j) * s then argL j g s (a + 2 ^ j) else argL j g s a
def argQ (x y a : Int) : Int := if abs1 y > abs1 x then 94371840 - a else a
def argX (x a : Int) : Int := if x < 0 then 188743680 - a else a
def argY (y a : Int) : Int := if y < 0 then -a else a
def argS (x y : Int) : Int × Int :=
  if (isFix x && isFix y) = true then
    (if mx (abs1 x) (abs1 y) = 0 then (0, 18) else (argY y (argX x (argQ x y (if mn (abs1 x) (abs1 y) < mx (abs1 x) (abs1 y) then argL 26 (mx (abs1 x) (abs1 y)) (mn (abs1 x) (abs1 y)) 0 else 47185920))), 0))
  else (0, 2)
theorem argL_bd (j : Nat) : ∀ g s a, 0 ≤ a → a ≤ 47185920 → 0 ≤ argL j g s a ∧ argL j g s a ≤ 47185920 := by
  induction j with
  | zero => intro g s a h0 h1; exact ⟨h0, h1⟩
  | succ j ih =>
    intro g s a h0 h1
    have hp : (0 : Int) < 2 ^ j := Int.pow_pos (by omega)
    simp only [argL]
    split
    · exact ih _ _ _ h0 h1
    · split
      · exact ih _ _ _ (by omega) (by omega)
      · exact ih _ _ _ h0 h1
theorem arg_end (k : Nat) (hk : 2 ≤ k) (x y a : Int) (hx : isFix x = true) (hy : isFix y = true) (h0 : 0 ≤ a) (h1 : a ≤ 47185920) : fix_Arg.j1 k x y a = some (argY y (argX x (argQ x y a)), 0) := by
  obtain ⟨k, rfl⟩ : ∃ m, k = m + 2 := ⟨k - 2, by omega⟩
  simp only [fix_Arg.j1]
  rw [abs_ok _ hx, abs_ok _ hy]; simp only [Option.bind_some]
  rw [w64 (x := 94371840 - a) (by omega) (by omega)]
  have h : ∀ q, 0 ≤ q → q ≤ 94371840 → fix_Arg.j2 (k + 1) x y q = some (argY y (argX x q), 0) := by
    intro q q0 q1
    simp only [fix_Arg.j2]
    rw [w64 (x := 188743680 - q) (by omega) (by omega), w64 (x := -q) (by omega) (by omega), w64 (x := -(188743680 - q)) (by omega) (by omega)]
    unfold argY argX
    split <;> split <;> rfl
  unfold argQ
  split
  · exact h _ (by omega) (by omega)
  · exact h _ (by omega) (by omega)
theorem pow_le (j : Nat) (h : j ≤ 30) : (2 : Int) ^ j ≤ 1073741824 := by
  have : ∀ j : Fin 31, (2 : Int) ^ j.val ≤ 1073741824 := by decide
  exact this ⟨j, by omega⟩
theorem shl_one (j : Nat) (hj : j ≤ 30) : shl .i64 1 (j : Int) = 2 ^ j := by
  unfold shl
  have e : min (j : Int).toNat (IntKind.bits .i64) = j := by simp [IntKind.bits]; omega
  rw [e, Int.one_mul]
  have h1 := pow_le j hj
  have h0 : (0 : Int) < 2 ^ j := Int.pow_pos (by omega)
  generalize (2 : Int) ^ j = p at *
  unfold IntKind.wrap; simp [IntKind.bits, IntKind.signed]; omega
theorem arg_loop (x y g s : Int) (hx : isFix x = true) (hy : isFix y = true) (hg0 : 0 ≤ g) (hg1 : g ≤ 2147483647) (hs0 : 0 ≤ s) (hs1 : s ≤ 2147483647) (j : Nat) : ∀ (k : Nat) (a i : Int), j + 40 ≤ k → j ≤ 26 → i = (j : Int) - 1 → 0 ≤ a → a ≤ 47185920 →
    fix_Arg.l0 k x y g s a i = some (argY y (argX x (argQ x y (argL j g s a))), 0) := by
  induction j with
  | zero =>
    intro k a i hk hj hi h0 h1
    obtain ⟨k, rfl⟩ : ∃ m, k = m + 1 := ⟨k - 1, by omega⟩
    simp only [fix_Arg.l0, argL]
    rw [if_neg (by omega)]
    exact arg_end k (by omega) x y a hx hy h0 h1
  | succ j ih =>
    intro k a i hk hj hi h0 h1
    obtain ⟨k, rfl⟩ : ∃ m, k = m + 1 := ⟨k - 1, by omega⟩
    have ei : i = (j : Int) := by omega
    have hp : (0 : Int) < 2 ^ j := Int.pow_pos (by omega)
    have hp1 := pow_le j (by omega)
    simp only [fix_Arg.l0, argL]
    rw [ei, shl_one j (by omega), if_pos (by omega), if_pos (by omega), w64 (x := a + 2 ^ j) (by omega) (by omega), w64 (x := (j : Int) - 1) (by omega) (by omega)]
    by_cases hc : a + 2 ^ j > 47185920
    · rw [if_pos hc, if_pos hc]
      exact ih k a _ (by omega) (by omega) rfl h0 h1
    · rw [if_neg hc, if_neg hc, sine_ok k (by omega) _ (by omega) (by omega)]
      simp only [Option.bind_some]
      have b1 := sinL_bound (r := a + 2 ^ j) (by omega) (by omega)
      have b2 := cosL_bound (r := a + 2 ^ j) (by omega) (by omega)
      have m1 := mul_bd (A := 268435456) (B := 2147483647) (a := sinL (a + 2 ^ j)) (b := g) (by omega) (by omega)
      have m2 := mul_bd (A := 268435456) (B := 2147483647) (a := cosL (a + 2 ^ j)) (b := s) (by omega) (by omega)
      rw [w64 (x := sinL (a + 2 ^ j) * g) (by omega) (by omega), w64 (x := cosL (a + 2 ^ j) * s) (by omega) (by omega)]
      by_cases hd : sinL (a + 2 ^ j) * g ≤ cosL (a + 2 ^ j) * s
      · rw [if_pos hd, if_pos hd]
        exact ih k _ _ (by omega) (by omega) rfl (by omega) (by omega)
      · rw [if_neg hd, if_neg hd]
        exact ih k a _ (by omega) (by omega) rfl h0 h1
theorem arg_ok (k : Nat) (hk : 70 ≤ k) (x y : Int) : fix_Arg.f k x y = some (argS x y) := by
  unfold fix_Arg.f argS
  obtain ⟨k, rfl⟩ : ∃ m, k = m + 3 := ⟨k - 3, by omega⟩
  rw [fixed_two]; simp only [Option.bind_some]
  by_cases h : (isFix x && isFix y) = true
  · rw [if_pos h, if_pos h]
    obtain ⟨hx, hy⟩ := Bool.and_eq_true_iff.1 h
    rw [abs_ok _ hx, abs_ok _ hy]; simp only [Option.bind_some]
    have bx : 0 ≤ abs1 x ∧ abs1 x ≤ 2147483647 := by rw [isFix_iff] at hx; unfold abs1; split <;> omega
    have b_y : 0 ≤ abs1 y ∧ abs1 y ≤ 2147483647 := by rw [isFix_iff] at hy; unfold abs1; split <;> omega
    have bm : 0 ≤ mx (abs1 x) (abs1 y) ∧ mx (abs1 x) (abs1 y) ≤ 2147483647 := by unfold mx; split <;> omega
    have bn : 0 ≤ mn (abs1 x) (abs1 y) ∧ mn (abs1 x) (abs1 y) ≤ 2147483647 := by unfold mn; split <;> omega
    by_cases h0 : mx (abs1 x) (abs1 y) = 0
    · rw [if_pos h0, if_pos h0]
    · rw [if_neg h0, if_neg h0]
      by_cases h1 : mn (abs1 x) (abs1 y) < mx (abs1 x) (abs1 y)
      · rw [if_pos h1, if_pos h1]
        exact arg_loop x y _ _ hx hy bm.1 bm.2 bn.1 bn.2 26 _ 0 25 (by omega) (by omega) (by omega) (by omega) (by omega)
      · rw [if_neg h1, if_neg h1]
        exact arg_end _ (by omega) x y _ hx hy (by omega) (by omega)
  · rw [if_neg h, if_neg h]

theorem sq_lt {a b : Int} (hb : 0 ≤ b) (h : a * a < (b + 1) * (b + 1)) : a ≤ b := by
  by_cases hc : a ≤ b
  · exact hc
  · exfalso
    have : (b + 1) * (b + 1) ≤ a * a := Int.mul_le_mul (by omega) (by omega) (by omega) (by omega)
    omega
theorem abs1_sq (a : Int) : abs1 a * abs1 a = a * a ∧ 0 ≤ abs1 a := by
  unfold abs1; split
  · exact ⟨Int.neg_mul_neg a a, by omega⟩
  · exact ⟨rfl, by omega⟩
theorem rooted_hyp (a b : Int) (ha : isFix a = true) (hb : isFix b = true) :
    abs1 a ≤ rooted (a * a + b * b) ∧ abs1 b ≤ rooted (a * a + b * b) ∧ rooted (a * a + b * b) ≤ abs1 a + abs1 b := by
  rw [isFix_iff] at ha hb
  obtain ⟨_, a2, a3⟩ := umul a ha.1 ha.2
  obtain ⟨_, b2, b3⟩ := umul b hb.1 hb.2
  obtain ⟨r, r0, r1, r2, r3⟩ := rooted_spec (a * a + b * b) (by omega) (by omega)
  obtain ⟨pa, p0⟩ := abs1_sq a
  obtain ⟨qa, q0⟩ := abs1_sq b
  generalize abs1 a = p at *
  generalize abs1 b = q at *
  have h1 : p ≤ r := sq_lt r0 (by omega)
  have h2 : q ≤ r := sq_lt r0 (by omega)
  have pq : 0 ≤ p * q := Int.mul_nonneg p0 q0
  have e : (p + q) * (p + q) = p * p + q * q + 2 * (p * q) := by grind
  have h3 : r ≤ p + q := sq_lt (by omega) (by
    have : (p + q + 1) * (p + q + 1) = (p + q) * (p + q) + 2 * (p + q) + 1 := by grind
    omega)
  refine ⟨?_, ?_, ?_⟩
  · rcases r3 with ⟨_, h⟩ | ⟨_, h⟩ <;> omega
  · rcases r3 with ⟨_, h⟩ | ⟨_, h⟩ <;> omega
  · rcases r3 with ⟨h4, h⟩ | ⟨_, h⟩
    · by_cases hr : r = p + q
      · exfalso; rw [hr] at h4; omega
      · omega
    · omega
theorem rooted_five (s : Int) (h0 : -429496729 ≤ s) (h1 : s ≤ 429496729) : rooted (3 * s * (3 * s) + 4 * s * (4 * s)) = abs1 (5 * s) ∧ abs1 (5 * s) ≤ 2147483645 := by
  have hs : s * s ≤ 429496729 * 429496729 ∧ 0 ≤ s * s := by
    have h := mul_bd (A := 429496729) (B := 429496729) ⟨h0, h1⟩ ⟨h0, h1⟩
    refine ⟨h.2, ?_⟩
    have := abs1_sq s
    rw [← this.1]; exact Int.mul_nonneg this.2 this.2
  have e : 3 * s * (3 * s) + 4 * s * (4 * s) = 25 * (s * s) := by grind
  rw [e]
  obtain ⟨r, r0, r1, r2, r3⟩ := rooted_spec (25 * (s * s)) (by omega) (by omega)
  obtain ⟨pa, p0⟩ := abs1_sq (5 * s)
  have e2 : 5 * s * (5 * s) = 25 * (s * s) := by grind
  rw [e2] at pa
  have pb : abs1 (5 * s) ≤ 2147483645 := by unfold abs1; split <;> omega
  refine ⟨?_, pb⟩
  generalize abs1 (5 * s) = p at *
  have g1 : p ≤ r := sq_lt r0 (by omega)
  have g2 : r ≤ p := sq_lt p0 (by
    have : (p + 1) * (p + 1) = p * p + 2 * p + 1 := by grind
    omega)
  have g3 : r = p := by omega
  subst g3
  rcases r3 with ⟨h4, h⟩ | ⟨_, h⟩
  · omega
  · exact h
theorem rooted_near (n : Int) (h0 : 0 ≤ n) (h1 : n ≤ 9223372036854775807) : -(rooted n) ≤ rooted n * rooted n - n ∧ rooted n * rooted n - n ≤ rooted n := by
  obtain ⟨r, r0, r1, r2, r3⟩ := rooted_spec n h0 h1
  have e : (r + 1) * (r + 1) = r * r + 2 * r + 1 := by grind
  rcases r3 with ⟨h4, h⟩ | ⟨h4, h⟩
  · rw [h, e]; omega
  · rw [h]; omega

/-! ### The sum of the squares -/
abbrev M : Int := 1152921504606846976
theorem next_near {u t k : Int} (ht : 0 ≤ t) (ht1 : t ≤ 1073741824) (hk : 1 ≤ k) :
    0 ≤ u * (t * t) - M * (k * (k + 1)) * nextU u t k ∧ u * (t * t) - M * (k * (k + 1)) * nextU u t k ≤ M * (k * (k + 1) + 1) := by
  unfold nextU
  have k2 : 2 ≤ k * (k + 1) := by
    have := Int.mul_le_mul (show (1 : Int) ≤ k from hk) (show (2 : Int) ≤ k + 1 by omega) (by omega) (by omega)
    omega
  generalize k * (k + 1) = d at *
  -- a = u t / N, b = a t / N, v = b / d
  have a0 := Int.mul_ediv_add_emod (u * t) 1073741824
  have a1 := Int.emod_nonneg (u * t) (show (1073741824 : Int) ≠ 0 by decide)
  have a2 := Int.emod_lt_of_pos (u * t) (show (0 : Int) < 1073741824 by decide)
  generalize u * t / 1073741824 = a at *
  generalize u * t % 1073741824 = ra at *
  have b0 := Int.mul_ediv_add_emod (a * t) 1073741824
  have b1 := Int.emod_nonneg (a * t) (show (1073741824 : Int) ≠ 0 by decide)
  have b2 := Int.emod_lt_of_pos (a * t) (show (0 : Int) < 1073741824 by decide)
  generalize a * t / 1073741824 = b at *
  generalize a * t % 1073741824 = rb at *
  have c0 := Int.mul_ediv_add_emod b d
  have c1 := Int.emod_nonneg b (show d ≠ 0 by omega)
  have c2 := Int.emod_lt_of_pos b (show 0 < d by omega)
  generalize b / d = v at *
  generalize b % d = rc at *
  have e1 : u * (t * t) = 1073741824 * (a * t) + ra * t := by rw [← Int.mul_assoc, ← a0]; grind
  have e2 : u * (t * t) - M * d * v = M * rc + 1073741824 * rb + ra * t := by
    rw [e1, ← b0, ← c0]; unfold M; grind
  have r1 : 0 ≤ ra * t := Int.mul_nonneg a1 ht
  have r2 : ra * t ≤ 1073741823 * 1073741824 := Int.mul_le_mul (by omega) ht1 ht (by omega)
  rw [e2]
  unfold M
  omega

theorem powle {y m : Int} (h0 : 0 ≤ y) (h1 : y ≤ m) (i : Nat) : 0 ≤ y ^ i ∧ y ^ i ≤ m ^ i := by
  induction i with
  | zero => simp
  | succ i ih =>
    rw [Int.pow_succ, Int.pow_succ]
    exact ⟨Int.mul_nonneg ih.1 h0, Int.mul_le_mul ih.2 h1 h0 (Int.pow_nonneg (by omega))⟩
theorem term_le {y m : Int} (h0 : 0 ≤ y) (h1 : y ≤ m) (i j n : Nat) (h : i + j = n) : 0 ≤ y ^ i * m ^ j ∧ y ^ i * m ^ j ≤ m ^ n := by
  subst h
  have a := powle h0 h1 i
  have hm : 0 ≤ m ^ j := Int.pow_nonneg (by omega)
  refine ⟨Int.mul_nonneg a.1 hm, ?_⟩
  rw [Int.pow_add]
  exact Int.mul_le_mul_of_nonneg_right a.2 hm
theorem pow1 (x : Int) : x ^ 1 = x := by rw [Int.pow_succ, Int.pow_zero, Int.one_mul]
/-- The two sums' polynomials: the squares' sum is 1, but for terms of high degree. -/
def ps (y m : Int) : Int := 39916800 * m ^ 5 - 6652800 * (y * m ^ 4) + 332640 * (y ^ 2 * m ^ 3) - 7920 * (y ^ 3 * m ^ 2) + 110 * (y ^ 4 * m) - y ^ 5
def qc (y m : Int) : Int := 39916800 * m ^ 5 - 19958400 * (y * m ^ 4) + 1663200 * (y ^ 2 * m ^ 3) - 55440 * (y ^ 3 * m ^ 2) + 990 * (y ^ 4 * m) - 11 * y ^ 5
theorem poly_id (y m : Int) : y * (ps y m * ps y m) + m * (qc y m * qc y m) - m * (39916800 * m ^ 5 * (39916800 * m ^ 5)) =
    -6652800 * (y ^ 6 * m ^ 5) + 2851200 * (y ^ 7 * m ^ 4) - 207900 * (y ^ 8 * m ^ 3) + 6160 * (y ^ 9 * m ^ 2) - 99 * (y ^ 10 * m) + y ^ 11 := by
  unfold ps qc
  grind
theorem poly_bd (y m : Int) (h0 : 0 ≤ y) (h1 : y ≤ m) :
    -(9718160 * m ^ 11) ≤ y * (ps y m * ps y m) + m * (qc y m * qc y m) - m * (39916800 * m ^ 5 * (39916800 * m ^ 5)) ∧
    y * (ps y m * ps y m) + m * (qc y m * qc y m) - m * (39916800 * m ^ 5 * (39916800 * m ^ 5)) ≤ 9718160 * m ^ 11 := by
  rw [poly_id]
  have a1 := term_le h0 h1 6 5 11 rfl
  have a2 := term_le h0 h1 7 4 11 rfl
  have a3 := term_le h0 h1 8 3 11 rfl
  have a4 := term_le h0 h1 9 2 11 rfl
  have a5 := term_le h0 h1 10 1 11 rfl
  have a6 := term_le h0 h1 11 0 11 rfl
  rw [pow1] at a5
  rw [Int.pow_zero, Int.mul_one] at a6
  generalize y ^ 6 * m ^ 5 = t1 at *
  generalize y ^ 7 * m ^ 4 = t2 at *
  generalize y ^ 8 * m ^ 3 = t3 at *
  generalize y ^ 9 * m ^ 2 = t4 at *
  generalize y ^ 10 * m = t5 at *
  generalize y ^ 11 = t6 at *
  generalize m ^ 11 = t7 at *
  omega
theorem ps_bd (y m : Int) (h0 : 0 ≤ y) (h1 : y ≤ m) : -(42000000 * m ^ 5) ≤ ps y m ∧ ps y m ≤ 42000000 * m ^ 5 ∧ -(42000000 * m ^ 5) ≤ qc y m ∧ qc y m ≤ 42000000 * m ^ 5 := by
  have a0 := term_le h0 h1 0 5 5 rfl
  have a1 := term_le h0 h1 1 4 5 rfl
  have a2 := term_le h0 h1 2 3 5 rfl
  have a3 := term_le h0 h1 3 2 5 rfl
  have a4 := term_le h0 h1 4 1 5 rfl
  have a5 := term_le h0 h1 5 0 5 rfl
  rw [Int.pow_zero, Int.one_mul] at a0
  rw [pow1] at a1 a4
  rw [Int.pow_zero, Int.mul_one] at a5
  unfold ps qc
  generalize y * m ^ 4 = t1 at *
  generalize y ^ 2 * m ^ 3 = t2 at *
  generalize y ^ 3 * m ^ 2 = t3 at *
  generalize y ^ 4 * m = t4 at *
  generalize y ^ 5 = t5 at *
  generalize m ^ 5 = t6 at *
  omega
/-- One term from the one before it. -/
theorem term_step {W a u y d v : Int} (ha : 0 ≤ a) (h0 : 0 ≤ W - a * u) (h1 : W - a * u ≤ 2 * a) (g0 : 0 ≤ u * y - M * d * v) (g1 : u * y - M * d * v ≤ M * (d + 1)) (hy : 0 ≤ y) (hy1 : y ≤ M) (hd : 3 ≤ d) :
    0 ≤ W * y - a * (M * d) * v ∧ W * y - a * (M * d) * v ≤ 2 * (a * (M * d)) := by
  have e : W * y - a * (M * d) * v = (W - a * u) * y + a * (u * y - M * d * v) := by grind
  have b0 : 0 ≤ (W - a * u) * y := Int.mul_nonneg h0 hy
  have b1 : (W - a * u) * y ≤ 2 * a * M := Int.mul_le_mul h1 hy1 hy (by omega)
  have c0 : 0 ≤ a * (u * y - M * d * v) := Int.mul_nonneg ha g0
  have c1 : a * (u * y - M * d * v) ≤ a * (M * (d + 1)) := Int.mul_le_mul_of_nonneg_left g1 ha
  have f1 : a * (M * (d + 1)) = a * (M * d) + a * M := by grind
  have f2 : a * (M * d) = (a * M) * d := by grind
  have f3 : (a * M) * 3 ≤ (a * M) * d := Int.mul_le_mul_of_nonneg_left hd (Int.mul_nonneg ha (by unfold M; decide))
  have f4 : 2 * a * M = 2 * (a * M) := by grind
  rw [e]
  omega
theorem ser_succ (n : Nat) (u t sum sg k : Int) : ser (n + 1) u t sum sg k = ser n (nextU u t k) t (sum + sg * u) (-sg) (k + 2) := by
  have hz : ∀ m sum sg k, ser m 0 t sum sg k = sum := by
    intro m; cases m with
    | zero => intro _ _ _; rfl
    | succ m => intro _ _ _; simp [ser]
  by_cases h : u = 0
  · subst h
    rw [hz]
    have : nextU 0 t k = 0 := by unfold nextU; simp
    rw [this, hz]; simp
  · simp only [ser]; rw [if_neg h]
theorem ser_zero (n : Nat) (t sum sg k : Int) : ser n 0 t sum sg k = sum := by
  cases n with
  | zero => rfl
  | succ n => simp [ser]

/-- Six terms, and what they miss: the first term is exact, each other one lies below what it stands for by at most two. -/
theorem six (t k0 u0 : Int) (ht : 0 ≤ t) (ht1 : t ≤ 1073741824) (hk : 1 ≤ k0) (hu : 0 ≤ u0) (d1 d2 d3 d4 d5 d6 : Int)
    (e1 : k0 * (k0 + 1) = d1) (e2 : (k0 + 2) * (k0 + 2 + 1) = d2) (e3 : (k0 + 2 + 2) * (k0 + 2 + 2 + 1) = d3) (e4 : (k0 + 2 + 2 + 2) * (k0 + 2 + 2 + 2 + 1) = d4)
    (e5 : (k0 + 2 + 2 + 2 + 2) * (k0 + 2 + 2 + 2 + 2 + 1) = d5) (e6 : (k0 + 2 + 2 + 2 + 2 + 2) * (k0 + 2 + 2 + 2 + 2 + 2 + 1) = d6) (hd1 : 2 ≤ d1) (hd2 : 3 ≤ d2) (hd3 : 3 ≤ d3) (hd4 : 3 ≤ d4) (hd5 : 3 ≤ d5) (hd6 : 3 ≤ d6)
    (hlast : u0 * (t * t) * (t * t) * (t * t) * (t * t) * (t * t) * (t * t) < M * d1 * (M * d2) * (M * d3) * (M * d4) * (M * d5) * (M * d6)) :
    ∃ u1 u2 u3 u4 u5, ser 31 u0 t 0 1 k0 = u0 - u1 + u2 - u3 + u4 - u5 ∧
      (0 ≤ u0 * (t * t) - M * d1 * u1 ∧ u0 * (t * t) - M * d1 * u1 ≤ 2 * (M * d1)) ∧
      (0 ≤ u0 * (t * t) * (t * t) - M * d1 * (M * d2) * u2 ∧ u0 * (t * t) * (t * t) - M * d1 * (M * d2) * u2 ≤ 2 * (M * d1 * (M * d2))) ∧
      (0 ≤ u0 * (t * t) * (t * t) * (t * t) - M * d1 * (M * d2) * (M * d3) * u3 ∧ u0 * (t * t) * (t * t) * (t * t) - M * d1 * (M * d2) * (M * d3) * u3 ≤ 2 * (M * d1 * (M * d2) * (M * d3))) ∧
      (0 ≤ u0 * (t * t) * (t * t) * (t * t) * (t * t) - M * d1 * (M * d2) * (M * d3) * (M * d4) * u4 ∧ u0 * (t * t) * (t * t) * (t * t) * (t * t) - M * d1 * (M * d2) * (M * d3) * (M * d4) * u4 ≤ 2 * (M * d1 * (M * d2) * (M * d3) * (M * d4))) ∧
      (0 ≤ u0 * (t * t) * (t * t) * (t * t) * (t * t) * (t * t) - M * d1 * (M * d2) * (M * d3) * (M * d4) * (M * d5) * u5 ∧ u0 * (t * t) * (t * t) * (t * t) * (t * t) * (t * t) - M * d1 * (M * d2) * (M * d3) * (M * d4) * (M * d5) * u5 ≤ 2 * (M * d1 * (M * d2) * (M * d3) * (M * d4) * (M * d5))) := by
  have y0 : 0 ≤ t * t := Int.mul_nonneg ht ht
  have y1 : t * t ≤ M := Int.le_trans (Int.mul_le_mul ht1 ht1 ht (by omega)) (by unfold M; decide)
  have hM : 0 ≤ M := by unfold M; decide
  have P : ∀ {a d : Int}, 0 ≤ a → 2 ≤ d → 0 ≤ a * (M * d) := fun h1 h2 => Int.mul_nonneg h1 (Int.mul_nonneg hM (by omega))
  have n1 := next_near (u := u0) (k := k0) ht ht1 hk
  have v1 := (nextU_le (u := u0) (k := k0) hu ht ht1 hk).1
  rw [e1] at n1
  have n2 := next_near (u := nextU u0 t k0) (k := k0 + 2) ht ht1 (by omega)
  have v2 := (nextU_le (k := k0 + 2) v1 ht ht1 (by omega)).1
  rw [e2] at n2
  generalize hu1 : nextU u0 t k0 = u1 at *
  have n3 := next_near (u := nextU u1 t (k0 + 2)) (k := k0 + 2 + 2) ht ht1 (by omega)
  have v3 := (nextU_le (k := k0 + 2 + 2) v2 ht ht1 (by omega)).1
  rw [e3] at n3
  generalize hu2 : nextU u1 t (k0 + 2) = u2 at *
  have n4 := next_near (u := nextU u2 t (k0 + 2 + 2)) (k := k0 + 2 + 2 + 2) ht ht1 (by omega)
  have v4 := (nextU_le (k := k0 + 2 + 2 + 2) v3 ht ht1 (by omega)).1
  rw [e4] at n4
  generalize hu3 : nextU u2 t (k0 + 2 + 2) = u3 at *
  have n5 := next_near (u := nextU u3 t (k0 + 2 + 2 + 2)) (k := k0 + 2 + 2 + 2 + 2) ht ht1 (by omega)
  have v5 := (nextU_le (k := k0 + 2 + 2 + 2 + 2) v4 ht ht1 (by omega)).1
  rw [e5] at n5
  generalize hu4 : nextU u3 t (k0 + 2 + 2 + 2) = u4 at *
  have n6 := next_near (u := nextU u4 t (k0 + 2 + 2 + 2 + 2)) (k := k0 + 2 + 2 + 2 + 2 + 2) ht ht1 (by omega)
  have v6 := (nextU_le (k := k0 + 2 + 2 + 2 + 2 + 2) v5 ht ht1 (by omega)).1
  rw [e6] at n6
  generalize hu5 : nextU u4 t (k0 + 2 + 2 + 2 + 2) = u5 at *
  have g1 : 0 ≤ u0 * (t * t) - M * d1 * u1 ∧ u0 * (t * t) - M * d1 * u1 ≤ 2 * (M * d1) := by
    refine ⟨n1.1, Int.le_trans n1.2 ?_⟩
    have : M * 2 ≤ M * d1 := Int.mul_le_mul_of_nonneg_left hd1 hM
    rw [Int.mul_add]; omega
  have p1 : 0 ≤ M * d1 := Int.mul_nonneg hM (by omega)
  have g2 := term_step p1 g1.1 g1.2 n2.1 n2.2 y0 y1 hd2
  have p2 := P p1 (show 2 ≤ d2 by omega)
  have g3 := term_step p2 g2.1 g2.2 n3.1 n3.2 y0 y1 hd3
  have p3 := P p2 (show 2 ≤ d3 by omega)
  have g4 := term_step p3 g3.1 g3.2 n4.1 n4.2 y0 y1 hd4
  have p4 := P p3 (show 2 ≤ d4 by omega)
  have g5 := term_step p4 g4.1 g4.2 n5.1 n5.2 y0 y1 hd5
  have p5 := P p4 (show 2 ≤ d5 by omega)
  have g6 := term_step p5 g5.1 g5.2 n6.1 n6.2 y0 y1 hd6
  have p6 := P p5 (show 2 ≤ d6 by omega)
  generalize hu6 : nextU u5 t (k0 + 2 + 2 + 2 + 2 + 2) = u6 at *
  have z6 : u6 = 0 := by
    apply Classical.byContradiction
    intro hne
    have h1 : 1 ≤ u6 := by omega
    have := Int.mul_le_mul_of_nonneg_left h1 p6
    omega
  refine ⟨u1, u2, u3, u4, u5, ?_, g1, g2, g3, g4, g5⟩
  rw [ser_succ, ser_succ, ser_succ, ser_succ, ser_succ, ser_succ, hu1, hu2, hu3, hu4, hu5, hu6, z6, ser_zero]
  omega

theorem lin {c a u W K : Int} (hc : 0 ≤ c) (h : c * a = K) (h0 : 0 ≤ W - a * u) (h1 : W - a * u ≤ 2 * a) : 0 ≤ c * W - K * u ∧ c * W - K * u ≤ 2 * K := by
  subst h
  have a0 := Int.mul_nonneg hc h0
  have a1 := Int.mul_le_mul_of_nonneg_left h1 hc
  have e1 : c * (W - a * u) = c * W - c * a * u := by grind
  have e2 : c * (2 * a) = 2 * (c * a) := by grind
  omega
theorem chain {u y Y : Int} (hu : 0 ≤ u) (h0 : 0 ≤ y) (h1 : y ≤ Y) : u * y * y * y * y * y * y ≤ u * Y * Y * Y * Y * Y * Y := by
  have s : ∀ {a b : Int}, 0 ≤ a → a ≤ b → 0 ≤ a * y ∧ a * y ≤ b * Y := fun ha hb => ⟨Int.mul_nonneg ha h0, Int.mul_le_mul hb h1 h0 (by omega)⟩
  have a1 := s hu (Int.le_refl u)
  have a2 := s a1.1 a1.2
  have a3 := s a2.1 a2.2
  have a4 := s a3.1 a3.2
  have a5 := s a4.1 a4.2
  exact (s a5.1 a5.2).2
theorem tt_le {t : Int} (h0 : 0 ≤ t) (h1 : t ≤ 843314857) : 0 ≤ t * t ∧ t * t ≤ 843314857 * 843314857 := ⟨Int.mul_nonneg h0 h0, Int.mul_le_mul h1 h1 h0 (by omega)⟩
/-- K: the common denominator. -/
abbrev KK : Int := 39916800 * M ^ 5
theorem fin4 {K S s : Int} (hK : 0 ≤ K) (hs : s = (S + 2) / 4) : K * S - K ≤ K * (4 * s) ∧ K * (4 * s) ≤ K * S + 2 * K := by
  have h1 : S - 1 ≤ 4 * s := by omega
  have h2 : 4 * s ≤ S + 2 := by omega
  have a1 := Int.mul_le_mul_of_nonneg_left h1 hK
  have a2 := Int.mul_le_mul_of_nonneg_left h2 hK
  rw [Int.mul_sub, Int.mul_one] at a1
  rw [Int.mul_add] at a2
  omega
theorem poly_sum (u0 y m u1 u2 u3 u4 u5 : Int) (K : Int) (hK : K = 39916800 * m ^ 5) (hm : 0 ≤ m)
    (d1 d2 d3 d4 d5 c0 c1 c2 c3 c4 c5 : Int) (f0 : c0 = 39916800) (f1 : c1 * d1 = c0) (f2 : c2 * (d1 * d2) = c0) (f3 : c3 * (d1 * d2 * d3) = c0) (f4 : c4 * (d1 * d2 * d3 * d4) = c0) (f5 : c5 * (d1 * d2 * d3 * d4 * d5) = c0)
    (n1 : 0 ≤ c1) (n2 : 0 ≤ c2) (n3 : 0 ≤ c3) (n4 : 0 ≤ c4) (n5 : 0 ≤ c5)
    (g1 : 0 ≤ u0 * y - m * d1 * u1 ∧ u0 * y - m * d1 * u1 ≤ 2 * (m * d1))
    (g2 : 0 ≤ u0 * y * y - m * d1 * (m * d2) * u2 ∧ u0 * y * y - m * d1 * (m * d2) * u2 ≤ 2 * (m * d1 * (m * d2)))
    (g3 : 0 ≤ u0 * y * y * y - m * d1 * (m * d2) * (m * d3) * u3 ∧ u0 * y * y * y - m * d1 * (m * d2) * (m * d3) * u3 ≤ 2 * (m * d1 * (m * d2) * (m * d3)))
    (g4 : 0 ≤ u0 * y * y * y * y - m * d1 * (m * d2) * (m * d3) * (m * d4) * u4 ∧ u0 * y * y * y * y - m * d1 * (m * d2) * (m * d3) * (m * d4) * u4 ≤ 2 * (m * d1 * (m * d2) * (m * d3) * (m * d4)))
    (g5 : 0 ≤ u0 * y * y * y * y * y - m * d1 * (m * d2) * (m * d3) * (m * d4) * (m * d5) * u5 ∧ u0 * y * y * y * y * y - m * d1 * (m * d2) * (m * d3) * (m * d4) * (m * d5) * u5 ≤ 2 * (m * d1 * (m * d2) * (m * d3) * (m * d4) * (m * d5))) :
    -(4 * K) ≤ K * (u0 - u1 + u2 - u3 + u4 - u5) - u0 * (c0 * m ^ 5 - c1 * (y * m ^ 4) + c2 * (y ^ 2 * m ^ 3) - c3 * (y ^ 3 * m ^ 2) + c4 * (y ^ 4 * m) - c5 * y ^ 5) ∧
    K * (u0 - u1 + u2 - u3 + u4 - u5) - u0 * (c0 * m ^ 5 - c1 * (y * m ^ 4) + c2 * (y ^ 2 * m ^ 3) - c3 * (y ^ 3 * m ^ 2) + c4 * (y ^ 4 * m) - c5 * y ^ 5) ≤ 6 * K := by
  have q : ∀ n : Nat, 0 ≤ m ^ n := fun n => Int.pow_nonneg hm
  have b1 := lin (c := c1 * m ^ 4) (K := K) (Int.mul_nonneg n1 (q 4)) (by subst hK f0; rw [← f1]; grind) g1.1 g1.2
  have b2 := lin (c := c2 * m ^ 3) (K := K) (Int.mul_nonneg n2 (q 3)) (by subst hK f0; rw [← f2]; grind) g2.1 g2.2
  have b3 := lin (c := c3 * m ^ 2) (K := K) (Int.mul_nonneg n3 (q 2)) (by subst hK f0; rw [← f3]; grind) g3.1 g3.2
  have b4 := lin (c := c4 * m) (K := K) (Int.mul_nonneg n4 hm) (by subst hK f0; rw [← f4]; grind) g4.1 g4.2
  have b5 := lin (c := c5) (K := K) n5 (by subst hK f0; rw [← f5]; grind) g5.1 g5.2
  have e : K * (u0 - u1 + u2 - u3 + u4 - u5) - u0 * (c0 * m ^ 5 - c1 * (y * m ^ 4) + c2 * (y ^ 2 * m ^ 3) - c3 * (y ^ 3 * m ^ 2) + c4 * (y ^ 4 * m) - c5 * y ^ 5) =
      (c1 * m ^ 4 * (u0 * y) - K * u1) - (c2 * m ^ 3 * (u0 * y * y) - K * u2) + (c3 * m ^ 2 * (u0 * y * y * y) - K * u3) - (c4 * m * (u0 * y * y * y * y) - K * u4) + (c5 * (u0 * y * y * y * y * y) - K * u5) := by
    subst hK f0
    grind
  rw [e]
  omega
theorem sin_near {r : Int} (h0 : 0 ≤ r) (h1 : r ≤ 47185920) :
    -(8 * KK) ≤ KK * (4 * sinL r) - tOf r * ps (tOf r * tOf r) M ∧ KK * (4 * sinL r) - tOf r * ps (tOf r * tOf r) M ≤ 8 * KK := by
  obtain ⟨t0, t1⟩ := tOf_le h0 h1
  have hs : sinL r = (ser 31 (tOf r) (tOf r) 0 1 2 + 2) / 4 := rfl
  generalize tOf r = t at *
  have yy := tt_le t0 t1
  obtain ⟨u1, u2, u3, u4, u5, hser, g1, g2, g3, g4, g5⟩ := six t 2 t t0 (by omega) (by omega) t0 6 20 42 72 110 156 rfl rfl rfl rfl rfl rfl (by omega) (by omega) (by omega) (by omega) (by omega) (by omega)
    (Int.lt_of_le_of_lt (Int.le_trans (chain t0 yy.1 yy.2) (show t * (843314857 * 843314857) * (843314857 * 843314857) * (843314857 * 843314857) * (843314857 * 843314857) * (843314857 * 843314857) * (843314857 * 843314857) ≤ 843314857 * (843314857 * 843314857) * (843314857 * 843314857) * (843314857 * 843314857) * (843314857 * 843314857) * (843314857 * 843314857) * (843314857 * 843314857) by omega)) (by unfold M; decide))
  have hM : 0 ≤ M := by unfold M; decide
  have hK : (0 : Int) ≤ KK := Int.mul_nonneg (by omega) (Int.pow_nonneg hM)
  have h := poly_sum t (t * t) M u1 u2 u3 u4 u5 KK rfl hM 6 20 42 72 110 39916800 6652800 332640 7920 110 1 rfl rfl rfl rfl rfl rfl (by omega) (by omega) (by omega) (by omega) (by omega) g1 g2 g3 g4 g5
  rw [← hser] at h
  have hp : ps (t * t) M = 39916800 * M ^ 5 - 6652800 * (t * t * M ^ 4) + 332640 * ((t * t) ^ 2 * M ^ 3) - 7920 * ((t * t) ^ 3 * M ^ 2) + 110 * ((t * t) ^ 4 * M) - 1 * (t * t) ^ 5 := by unfold ps; rw [Int.one_mul]
  rw [← hp] at h
  have f := fin4 (K := KK) hK hs
  generalize KK = K at *
  omega
theorem cos_near {r : Int} (h0 : 0 ≤ r) (h1 : r ≤ 47185920) :
    -(8 * KK) ≤ KK * (4 * cosL r) - 1073741824 * qc (tOf r * tOf r) M ∧ KK * (4 * cosL r) - 1073741824 * qc (tOf r * tOf r) M ≤ 8 * KK := by
  obtain ⟨t0, t1⟩ := tOf_le h0 h1
  have hs : cosL r = (ser 31 1073741824 (tOf r) 0 1 1 + 2) / 4 := rfl
  generalize tOf r = t at *
  have yy := tt_le t0 t1
  obtain ⟨u1, u2, u3, u4, u5, hser, g1, g2, g3, g4, g5⟩ := six t 1 1073741824 t0 (by omega) (by omega) (by omega) 2 12 30 56 90 132 rfl rfl rfl rfl rfl rfl (by omega) (by omega) (by omega) (by omega) (by omega) (by omega)
    (Int.lt_of_le_of_lt (chain (by omega) yy.1 yy.2) (by unfold M; decide))
  have hM : 0 ≤ M := by unfold M; decide
  have hK : (0 : Int) ≤ KK := Int.mul_nonneg (by omega) (Int.pow_nonneg hM)
  have h := poly_sum 1073741824 (t * t) M u1 u2 u3 u4 u5 KK rfl hM 2 12 30 56 90 39916800 19958400 1663200 55440 990 11 rfl rfl rfl rfl rfl rfl (by omega) (by omega) (by omega) (by omega) (by omega) g1 g2 g3 g4 g5
  rw [← hser] at h
  have hp : qc (t * t) M = 39916800 * M ^ 5 - 19958400 * (t * t * M ^ 4) + 1663200 * ((t * t) ^ 2 * M ^ 3) - 55440 * ((t * t) ^ 3 * M ^ 2) + 990 * ((t * t) ^ 4 * M) - 11 * (t * t) ^ 5 := rfl
  rw [← hp] at h
  have f := fin4 (K := KK) hK hs
  generalize KK = K at *
  omega

theorem sq_near {X X0 e B : Int} (h0 : -e ≤ X - X0) (h1 : X - X0 ≤ e) (b0 : -B ≤ X0) (b1 : X0 ≤ B) :
    -(e * (2 * B + e)) ≤ X * X - X0 * X0 ∧ X * X - X0 * X0 ≤ e * (2 * B + e) := by
  have h := mul_bd (a := X - X0) (b := X + X0) (A := e) (B := 2 * B + e) ⟨h0, h1⟩ (by omega)
  have e1 : (X - X0) * (X + X0) = X * X - X0 * X0 := by grind
  rw [e1] at h
  exact h
theorem squares_low {r : Int} (h0 : 0 ≤ r) (h1 : r ≤ 47185920) :
    -8589934592 < sinL r * sinL r + cosL r * cosL r - 72057594037927936 ∧ sinL r * sinL r + cosL r * cosL r - 72057594037927936 < 8589934592 := by
  have hs := sin_near h0 h1
  have hc := cos_near h0 h1
  obtain ⟨t0, t1⟩ := tOf_le h0 h1
  generalize tOf r = t at *
  generalize sinL r = s at *
  generalize cosL r = c at *
  have y0 : 0 ≤ t * t := Int.mul_nonneg t0 t0
  have y1 : t * t ≤ M := Int.le_trans (Int.mul_le_mul (show t ≤ 1073741824 by omega) (show t ≤ 1073741824 by omega) t0 (by omega)) (by unfold M; decide)
  have hb := ps_bd (t * t) M y0 y1
  have hF := poly_bd (t * t) M y0 y1
  generalize ps (t * t) M = p at *
  generalize qc (t * t) M = q at *
  have hL : (0 : Int) ≤ 42000000 * M ^ 5 := by unfold M; decide
  have x0 := mul_bd (a := t) (b := p) (A := 1073741824) (B := 42000000 * M ^ 5) (by omega) ⟨hb.1, hb.2.1⟩
  have z0 := mul_bd (a := 1073741824) (b := q) (A := 1073741824) (B := 42000000 * M ^ 5) (by omega) ⟨hb.2.2.1, hb.2.2.2⟩
  have sx := sq_near hs.1 hs.2 x0.1 x0.2
  have sy := sq_near hc.1 hc.2 z0.1 z0.2
  have e1 : t * p * (t * p) = t * t * (p * p) := by grind
  have e2 : 1073741824 * q * (1073741824 * q) = M * (q * q) := by unfold M; grind
  rw [e1] at sx
  rw [e2] at sy
  have e3 : KK * (4 * s) * (KK * (4 * s)) = 16 * (KK * KK) * (s * s) := by generalize KK = K; grind
  have e4 : KK * (4 * c) * (KK * (4 * c)) = 16 * (KK * KK) * (c * c) := by generalize KK = K; grind
  rw [e3] at sx
  rw [e4] at sy
  have hK : (0 : Int) < 16 * (KK * KK) := by unfold KK M; decide
  have num : 2 * (8 * KK * (2 * (1073741824 * (42000000 * M ^ 5)) + 8 * KK)) + 9718160 * M ^ 11 < 16 * (KK * KK) * 8589934592 := by unfold KK M; decide
  have num2 : M * (39916800 * M ^ 5 * (39916800 * M ^ 5)) = 16 * (KK * KK) * 72057594037927936 := by unfold KK M; decide
  rw [num2] at hF
  generalize 16 * (KK * KK) = G at *
  generalize 8 * KK * (2 * (1073741824 * (42000000 * M ^ 5)) + 8 * KK) = E at *
  generalize 9718160 * M ^ 11 = H at *
  generalize t * t * (p * p) = a1 at *
  generalize M * (q * q) = a2 at *
  have d1 : G * (s * s + c * c - 72057594037927936) = G * (s * s) + G * (c * c) - G * 72057594037927936 := by grind
  have d2 : G * (s * s + c * c - 72057594037927936) < G * 8589934592 := by rw [d1]; omega
  have d3 : G * (-8589934592) < G * (s * s + c * c - 72057594037927936) := by rw [d1]; omega
  exact ⟨Int.lt_of_mul_lt_mul_left d3 (by omega), Int.lt_of_mul_lt_mul_left d2 (by omega)⟩
def sq2 (p : Int × Int) : Int := p.1 * p.1 + p.2 * p.2
theorem rot_sq (n : Nat) : ∀ p, sq2 (rot n p) = sq2 p := by
  induction n with
  | zero => intro p; rfl
  | succ n ih => intro p; rw [rot, ih]; unfold sq2; simp only; rw [Int.neg_mul_neg]; omega
theorem squares (a : Int) : -8589934592 < sq2 (circle a) - 72057594037927936 ∧ sq2 (circle a) - 72057594037927936 < 8589934592 := by
  unfold circle
  rw [rot_sq]
  unfold low sq2
  split
  · have := squares_low (r := 94371840 - a % 377487360 % 94371840) (by omega) (by omega)
    simp only; omega
  · have := squares_low (r := a % 377487360 % 94371840) (by omega) (by omega)
    simp only; omega

/-! ### Quarters -/
theorem rot4 (p : Int × Int) : rot 4 p = p := by simp [rot]
theorem rot_succ (n : Nat) (p : Int × Int) : rot (n + 1) p = ((rot n p).2, -(rot n p).1) := by
  induction n generalizing p with
  | zero => rfl
  | succ n ih => rw [rot, ih]; rfl
theorem circle_next (a : Int) : circle (a + 94371840) = ((circle a).2, -(circle a).1) := by
  unfold circle
  have e1 : (a + 94371840) % 377487360 % 94371840 = a % 377487360 % 94371840 := by omega
  rw [e1, ← rot_succ]
  by_cases h : (a % 377487360 / 94371840).toNat = 3
  · have e2 : ((a + 94371840) % 377487360 / 94371840).toNat = 0 := by omega
    rw [e2, h, rot4]; rfl
  · have e2 : ((a + 94371840) % 377487360 / 94371840).toNat = (a % 377487360 / 94371840).toNat + 1 := by omega
    rw [e2]
theorem rot_vals (n : Nat) (h : n ≤ 3) (p : Int × Int) : (n = 0 ∧ rot n p = p) ∨ (n = 1 ∧ rot n p = (p.2, -p.1)) ∨ (n = 2 ∧ rot n p = (-p.1, -p.2)) ∨ (n = 3 ∧ rot n p = (-p.2, p.1)) := by
  rcases (show n = 0 ∨ n = 1 ∨ n = 2 ∨ n = 3 by omega) with rfl | rfl | rfl | rfl <;> simp [rot]
theorem sin0 : sinL 0 = 0 := by decide +kernel
theorem cos0 : cosL 0 = 268435456 := by decide +kernel
theorem low0 : low 0 = (0, 268435456) := by unfold low; rw [sin0, cos0]; rfl
theorem half : -2 ≤ sinL 47185920 - cosL 47185920 ∧ sinL 47185920 - cosL 47185920 ≤ 2 := by decide +kernel
theorem circle_neg (a : Int) : -2 ≤ (circle (-a)).1 + (circle a).1 ∧ (circle (-a)).1 + (circle a).1 ≤ 2 := by
  unfold circle
  by_cases h : a % 377487360 % 94371840 = 0
  · have e : -a % 377487360 % 94371840 = 0 := by omega
    rw [h, e, low0]
    rcases rot_vals (a % 377487360 / 94371840).toNat (by omega) (0, 268435456) with ⟨h1, h2⟩ | ⟨h1, h2⟩ | ⟨h1, h2⟩ | ⟨h1, h2⟩ <;>
    rcases rot_vals (-a % 377487360 / 94371840).toNat (by omega) (0, 268435456) with ⟨h3, h4⟩ | ⟨h3, h4⟩ | ⟨h3, h4⟩ | ⟨h3, h4⟩ <;>
    first | (exfalso; omega) | (rw [h2, h4]; decide)
  · have e : -a % 377487360 % 94371840 = 94371840 - a % 377487360 % 94371840 := by omega
    rw [e]
    have hl : (low (94371840 - a % 377487360 % 94371840) = ((low (a % 377487360 % 94371840)).2, (low (a % 377487360 % 94371840)).1)) ∨
        (a % 377487360 % 94371840 = 47185920) := by
      by_cases hm : a % 377487360 % 94371840 = 47185920
      · right; exact hm
      · left
        unfold low
        by_cases hg : a % 377487360 % 94371840 > 47185920
        · rw [if_pos hg, if_neg (by omega)]
        · rw [if_neg hg, if_pos (by omega)]
          rw [show 94371840 - (94371840 - a % 377487360 % 94371840) = a % 377487360 % 94371840 by omega]
    rcases hl with hl | hm
    · rw [hl]
      generalize low (a % 377487360 % 94371840) = p
      rcases rot_vals (a % 377487360 / 94371840).toNat (by omega) p with ⟨h1, h2⟩ | ⟨h1, h2⟩ | ⟨h1, h2⟩ | ⟨h1, h2⟩ <;>
      rcases rot_vals (-a % 377487360 / 94371840).toNat (by omega) (p.2, p.1) with ⟨h3, h4⟩ | ⟨h3, h4⟩ | ⟨h3, h4⟩ | ⟨h3, h4⟩ <;>
      first | (exfalso; omega) | (rw [h2, h4]; simp only; omega)
    · rw [hm, show (94371840 : Int) - 47185920 = 47185920 by decide]
      have hh := half
      have e5 : low 47185920 = (sinL 47185920, cosL 47185920) := by unfold low; rw [if_neg (by omega)]
      rw [e5]
      generalize sinL 47185920 = s at *
      generalize cosL 47185920 = c at *
      rcases rot_vals (a % 377487360 / 94371840).toNat (by omega) (s, c) with ⟨h1, h2⟩ | ⟨h1, h2⟩ | ⟨h1, h2⟩ | ⟨h1, h2⟩ <;>
      rcases rot_vals (-a % 377487360 / 94371840).toNat (by omega) (s, c) with ⟨h3, h4⟩ | ⟨h3, h4⟩ | ⟨h3, h4⟩ | ⟨h3, h4⟩ <;>
      first | (exfalso; omega) | (rw [h2, h4]; simp only; omega)
theorem circle_quarter (a : Int) (h : a % 94371840 = 0) : ((circle a).1 = 0 ∨ (circle a).1 = 268435456 ∨ (circle a).1 = -268435456) ∧ ((circle a).2 = 0 ∨ (circle a).2 = 268435456 ∨ (circle a).2 = -268435456) := by
  unfold circle
  have e : a % 377487360 % 94371840 = 0 := by omega
  rw [e, low0]
  rcases rot_vals (a % 377487360 / 94371840).toNat (by omega) (0, 268435456) with ⟨_, h2⟩ | ⟨_, h2⟩ | ⟨_, h2⟩ | ⟨_, h2⟩ <;> rw [h2] <;> decide
end Go.Proofs.YtjaifahodfljkaaDoor.Z
