/-
  The numerals of the package fix: which digits Text writes behind the point: plain lemmas on integers and lists of bytes.
-/
import Derived.Test.YtjaifahodfljkaaDoorFixA
import Derived.Lib.AtoiTie
namespace Go.Proofs.YtjaifahodfljkaaDoor.Z
open Go Go.RowKit Go.Proofs.YtjaifahodfljkaaDoorW.PrintWords Go.Proofs.YtjaifahodfljkaaDoorW.PrintMore

/-! ### The digits behind the point -/
/-- What v of so many digits (p: their power) is, as a fixed number's part. -/
def rnd (v p : Int) : Int := (2 * (v * 65536) + p) / (2 * p)
/-- The number of so many digits that is nearest to the part f, of two the lesser one. -/
def nst (f p : Int) : Int := (2 * (f * p) + 65535) / 131072
def good (f p : Int) : Bool := decide (nst f p < p) && decide (rnd (nst f p) p = f)
theorem rnd_iff (v p f : Int) (hp : 0 < p) : rnd v p = f ↔ (-p ≤ 2 * (v * 65536 - f * p) ∧ 2 * (v * 65536 - f * p) < p) := by
  unfold rnd
  have h0 := Int.mul_ediv_add_emod (2 * (v * 65536) + p) (2 * p)
  have h1 := Int.emod_nonneg (2 * (v * 65536) + p) (show 2 * p ≠ 0 by omega)
  have h2 := Int.emod_lt_of_pos (2 * (v * 65536) + p) (show 0 < 2 * p by omega)
  generalize (2 * (v * 65536) + p) / (2 * p) = q at *
  generalize (2 * (v * 65536) + p) % (2 * p) = m at *
  have e : 2 * p * q = 2 * (q * p) := by rw [Int.mul_assoc, Int.mul_comm p q]
  constructor
  · intro h; subst h; omega
  · intro ⟨a, b⟩
    rcases Int.lt_trichotomy q f with h | h | h
    · exfalso
      have := Int.mul_le_mul_of_nonneg_right (show q + 1 ≤ f by omega) (show 0 ≤ p by omega)
      rw [Int.add_mul] at this; omega
    · exact h
    · exfalso
      have := Int.mul_le_mul_of_nonneg_right (show f + 1 ≤ q by omega) (show 0 ≤ p by omega)
      rw [Int.add_mul] at this; omega
theorem good_iff (f p : Int) : good f p = true ↔ nst f p < p ∧ rnd (nst f p) p = f := by simp [good]
/-- Some number of so many digits is read as f: then the nearest one is. -/
theorem good_of (f p v : Int) (hp : 0 < p) (hf : f ≤ 65535) (hv : v < p) (h : rnd v p = f) : good f p = true := by
  rw [good_iff _ _]
  rw [rnd_iff _ _ _ hp] at h
  have hd : -65536 ≤ 2 * (nst f p * 65536 - f * p) ∧ 2 * (nst f p * 65536 - f * p) < 65536 := by unfold nst; omega
  have hfp : f * p ≤ 65535 * p := Int.mul_le_mul_of_nonneg_right hf (by omega)
  rw [rnd_iff _ _ _ hp]
  generalize nst f p = d at *
  generalize f * p = g at *
  rcases Int.lt_trichotomy v d with h1 | h1 | h1
  · omega
  · subst h1; exact ⟨hv, h⟩
  · omega
theorem good_five (f : Int) (hf0 : 0 ≤ f) (hf : f ≤ 65535) : good f 100000 = true := by
  rw [good_iff _ _, rnd_iff _ _ _ (by omega)]
  unfold nst
  omega
theorem nst_nonneg (f p : Int) (hp : 0 < p) (hf0 : 0 ≤ f) : 0 ≤ nst f p := by
  have : 0 ≤ f * p := Int.mul_nonneg hf0 (by omega)
  unfold nst; omega
/-- The search's two steps. -/
def pick1 (f p : Int) : Int := if rnd (f * p / 65536) p = f then f * p / 65536 else -1
def pick2 (f p : Int) : Int :=
  if f * p / 65536 + 1 < p ∧ rnd (f * p / 65536 + 1) p = f ∧ (pick1 f p < 0 ∨ (f * p / 65536 + 1) * 65536 - f * p < f * p - pick1 f p * 65536) then f * p / 65536 + 1 else pick1 f p
theorem low_lt (f p : Int) (hp : 0 < p) (hf0 : 0 ≤ f) (hf : f ≤ 65535) : 0 ≤ f * p / 65536 ∧ f * p / 65536 < p := by
  have h1 : f * p ≤ 65535 * p := Int.mul_le_mul_of_nonneg_right hf (by omega)
  have h0 : 0 ≤ f * p := Int.mul_nonneg hf0 (by omega)
  omega
theorem pick_is (f p : Int) (hp : 0 < p) (hf0 : 0 ≤ f) (hf : f ≤ 65535) : pick2 f p = if good f p = true then nst f p else -1 := by
  obtain ⟨l0, l1⟩ := low_lt f p hp hf0 hf
  have hd : -65536 ≤ 2 * (nst f p * 65536 - f * p) ∧ 2 * (nst f p * 65536 - f * p) < 65536 := by unfold nst; omega
  have hl : 0 ≤ f * p - f * p / 65536 * 65536 ∧ f * p - f * p / 65536 * 65536 < 65536 := by omega
  have hg := good_iff f p
  have r0 := rnd_iff (f * p / 65536) p f hp
  have r1 := rnd_iff (f * p / 65536 + 1) p f hp
  have r2 := rnd_iff (nst f p) p f hp
  have hb : good f p = true ∨ good f p = false := by cases good f p <;> simp
  have hfp : f * p ≤ 65535 * p := Int.mul_le_mul_of_nonneg_right hf (by omega)
  unfold pick2 pick1
  generalize f * p / 65536 = l at *
  generalize f * p = g at *
  generalize nst f p = d at *
  have dl : d = l ∨ d = l + 1 := by omega
  rcases hb with hb | hb
  · rw [if_pos hb]
    obtain ⟨g1, g2⟩ := hg.1 hb
    have g3 := r2.1 g2
    rcases dl with rfl | rfl
    · rw [if_pos g2]
      rw [if_neg (by intro ⟨_, _, c⟩; omega)]
    · by_cases c : rnd l p = f
      · have c2 := r0.1 c
        rw [if_pos c, if_pos ⟨g1, g2, .inr (by omega)⟩]
      · rw [if_neg c, if_pos ⟨g1, g2, .inl (by omega)⟩]
  · rw [show (if good f p = true then d else -1) = -1 from if_neg (by rw [hb]; decide)]
    have hn : ¬ (d < p ∧ rnd d p = f) := fun h => by rw [hg.2 h] at hb; cases hb
    have n0 : ¬ rnd l p = f := by
      intro h
      rcases dl with rfl | rfl
      · exact hn ⟨l1, h⟩
      · have h1 := r0.1 h
        exact hn ⟨by omega, r2.2 (by omega)⟩
    rw [if_neg n0, if_neg (fun h => ?_)]
    obtain ⟨a, b, _⟩ := h
    rcases dl with rfl | rfl
    · have h1 := r1.1 b
      exact hn ⟨l1, r2.2 (by omega)⟩
    · exact hn ⟨a, b⟩

/-! ### Digits -/
theorem decDigits_ten (n : Nat) (h : 10 ≤ n) : Lib.decDigits n = Lib.decDigits (n / 10) ++ [UInt8.ofNat (48 + n % 10)] := by
  rw [Lib.decDigits]; rw [dif_neg (by omega)]
theorem decDigits_one (n : Nat) (h : n < 10) : Lib.decDigits n = [UInt8.ofNat (48 + n)] := by
  rw [Lib.decDigits]; rw [dif_pos h]
theorem decDigits_pos (n : Nat) : 1 ≤ (Lib.decDigits n).length := by
  by_cases h : n < 10
  · rw [decDigits_one n h]; simp
  · rw [decDigits_ten n (by omega)]; simp
theorem decDigits_len (m : Nat) : ∀ n, n < 10 ^ m → 1 ≤ m → (Lib.decDigits n).length ≤ m := by
  induction m with
  | zero => intro n _ h; omega
  | succ m ih =>
    intro n h _
    by_cases h1 : n < 10
    · rw [decDigits_one n h1]; simp
    · rw [decDigits_ten n (by omega)]
      have hm : 1 ≤ m := by
        apply Classical.byContradiction
        intro hc
        have : m = 0 := by omega
        subst this
        simp at h; omega
      have := ih (n / 10) (by rw [Nat.pow_succ] at h; omega) hm
      simp; omega
/-- d in so many digits (zeros ahead). -/
def padded (d : Nat) (n : Nat) : List UInt8 := List.replicate (n - (Lib.decDigits d).length) 48 ++ Lib.decDigits d
theorem repeat_zero (c : Nat) : Lib.repeatL [48] c = List.replicate c 48 := by
  have := Lib.repeatL_replicate 48 1 c
  simpa using this
/-- The reference's loop. -/
def dgL : Nat → Nat → Nat → List UInt8 → List UInt8
  | 0, _, _, acc => acc
  | k + 1, n, least, acc => if 0 < n ∨ acc.length < least then dgL k (n / 10) least (UInt8.ofNat (48 + n % 10) :: acc) else acc
theorem dgL_zero (k : Nat) : ∀ (least : Nat) (acc : List UInt8), least ≤ acc.length + k → dgL k 0 least acc = List.replicate (least - acc.length) 48 ++ acc := by
  induction k with
  | zero => intro least acc h; rw [show least - acc.length = 0 by omega]; rfl
  | succ k ih =>
    intro least acc h
    simp only [dgL]
    by_cases hc : acc.length < least
    · rw [if_pos (.inr hc), show 0 / 10 = 0 from rfl, ih least _ (by simp; omega)]
      rw [show least - acc.length = (least - (acc.length + 1)) + 1 by omega, List.replicate_succ', List.append_assoc]
      rfl
    · rw [if_neg (by omega), show least - acc.length = 0 by omega]; rfl
theorem dgL_pos (n : Nat) : ∀ (k least : Nat) (acc : List UInt8), 0 < n → (Lib.decDigits n).length + least ≤ k + acc.length + (Lib.decDigits n).length → (Lib.decDigits n).length ≤ k →
    dgL k n least acc = dgL (k - (Lib.decDigits n).length) 0 least (Lib.decDigits n ++ acc) := by
  induction n using Nat.strongRecOn with
  | _ n ih =>
    intro k least acc hn hk hk2
    have hp := decDigits_pos n
    obtain ⟨k, rfl⟩ : ∃ m, k = m + 1 := ⟨k - 1, by omega⟩
    simp only [dgL]
    rw [if_pos (.inl hn)]
    by_cases h : n < 10
    · rw [decDigits_one n h, show n / 10 = 0 by omega, show n % 10 = n by omega]
      simp
    · rw [decDigits_ten n (by omega)] at hk hk2 ⊢
      simp only [List.length_append, List.length_cons, List.length_nil] at hk hk2 ⊢
      rw [ih (n / 10) (by omega) k least _ (by omega) (by simp; omega) (by omega), List.append_assoc]
      rw [show k + 1 - ((Lib.decDigits (n / 10)).length + (0 + 1)) = k - (Lib.decDigits (n / 10)).length by omega]
      rfl
theorem dgL_is (n least k : Nat) (h1 : 1 ≤ least) (hk : (Lib.decDigits n).length + least ≤ k) : dgL k n least [] = padded n least := by
  unfold padded
  by_cases hn : n = 0
  · subst hn
    rw [dgL_zero k least [] (by simp; omega), decDigits_one 0 (by omega)]
    simp only [List.length_nil, List.append_nil, Nat.sub_zero, List.length_cons]
    obtain ⟨l, rfl⟩ : ∃ m, least = m + 1 := ⟨least - 1, by omega⟩
    rw [List.replicate_succ']
    rfl
  · rw [dgL_pos n k least [] (by omega) (by simp; omega) (by omega), List.append_nil, dgL_zero _ _ _ (by omega)]
end Go.Proofs.YtjaifahodfljkaaDoor.Z
