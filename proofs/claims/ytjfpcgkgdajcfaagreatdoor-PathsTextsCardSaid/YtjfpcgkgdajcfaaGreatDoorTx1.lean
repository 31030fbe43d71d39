/-
  Several texts in one: each with its own heading.
-/
import Derived.Lib.AtoiTie
import Derived.Test.YtjfpcgkgdajcfaaGreatDoorCfgP
import Derived.Test.YtjfpcgkgdajcfaaGreatDoorEvPd
import Derived.Test.YtjfpcgkgdajcfaaGreatDoorQ4
import Derived.Test.YtjfpcgkgdajcfaaGreatDoorW1
/-
  The numerals of the package fix: which digits Text writes behind the point: plain lemmas on integers and lists of bytes.
-/
namespace Go.Proofs.YtjfpcgkgdajcfaaGreatDoor
open Go Go.Proofs

/-! ### The digits behind the point -/
/-- What v of so many digits (p: their power) is, as a fixed number's part. -/
def rnd (v p : Int) : Int := (2 * (v * 65536) + p) / (2 * p)
/-- The number of so many digits that is nearest to the part f, of two the lesser one. -/
def nst (f p : Int) : Int := (2 * (f * p) + 65535) / 131072
def good (f p : Int) : Bool := decide (nst f p < p) && decide (rnd (nst f p) p = f)
theorem rnd_iff (v p f : Int) (hp : 0 < p) : rnd v p = f ↔ (-p ≤ 2 * (v * 65536 - f * p) ∧ 2 * (v * 65536 - f * p) < p) := by
  unfold rnd
  have h0 := Int.mul_ediv_add_emod (2 * (v * 65536) + p) (2 * p)
  have h1 := Int.emod_nonneg (2 * (v * 65536) + p) (show 2 * p ≠ 0 by omega)
  have h2 := Int.emod_lt_of_pos (2 * (v * 65536) + p) (show 0 < 2 * p by omega)
  generalize (2 * (v * 65536) + p) / (2 * p) = q at *
  generalize (2 * (v * 65536) + p) % (2 * p) = m at *
  have e : 2 * p * q = 2 * (q * p) := by rw [Int.mul_assoc, Int.mul_comm p q]
  constructor
  · intro h; subst h; omega
  · intro ⟨a, b⟩
    rcases Int.lt_trichotomy q f with h | h | h
    · exfalso
      have := Int.mul_le_mul_of_nonneg_right (show q + 1 ≤ f by omega) (show 0 ≤ p by omega)
      rw [Int.add_mul] at this; omega
    · exact h
    · exfalso
      have := Int.mul_le_mul_of_nonneg_right (show f + 1 ≤ q by omega) (show 0 ≤ p by omega)
      rw [Int.add_mul] at this; omega
theorem good_iff (f p : Int) : good f p = true ↔ nst f p < p ∧ rnd (nst f p) p = f := by simp [good]
/-- Some number of so many digits is read as f: then the nearest one is. -/
theorem good_of (f p v : Int) (hp : 0 < p) (hf : f ≤ 65535) (hv : v < p) (h : rnd v p = f) : good f p = true := by
  rw [good_iff _ _]
  rw [rnd_iff _ _ _ hp] at h
  have hd : -65536 ≤ 2 * (nst f p * 65536 - f * p) ∧ 2 * (nst f p * 65536 - f * p) < 65536 := by unfold nst; omega
  have hfp : f * p ≤ 65535 * p := Int.mul_le_mul_of_nonneg_right hf (by omega)
  rw [rnd_iff _ _ _ hp]
  generalize nst f p = d at *
  generalize f * p = g at *
  rcases Int.lt_trichotomy v d with h1 | h1 | h1
  · omega
  · subst h1; exact ⟨hv, h⟩
  · omega
theorem good_five (f : Int) (hf0 : 0 ≤ f) (hf : f ≤ 65535) : good f 100000 = true := by
  rw [good_iff _ _, rnd_iff _ _ _ (by omega)]
  unfold nst
  omega
theorem nst_nonneg (f p : Int) (hp : 0 < p) (hf0 : 0 ≤ f) : 0 ≤ nst f p := by
  have : 0 ≤ f * p := Int.mul_nonneg hf0 (by omega)
  unfold nst; omega
/-- The search's two steps. -/
def pick1 (f p : Int) : Int := if rnd (f * p / 65536) p = f then f * p / 65536 else -1
def pick2 (f p : Int) : Int :=
  if f * p / 65536 + 1 < p ∧ rnd (f * p / 65536 + 1) p = f ∧ (pick1 f p < 0 ∨ (f * p / 65536 + 1) * 65536 - f * p < f * p - pick1 f p * 65536) then f * p / 65536 + 1 else pick1 f p
theorem low_lt (f p : Int) (hp : 0 < p) (hf0 : 0 ≤ f) (hf : f ≤ 65535) : 0 ≤ f * p / 65536 ∧ f * p / 65536 < p := by
  have h1 : f * p ≤ 65535 * p := Int.mul_le_mul_of_nonneg_right hf (by omega)
  have h0 : 0 ≤ f * p := Int.mul_nonneg hf0 (by omega)
  omega
theorem pick_is (f p : Int) (hp : 0 < p) (hf0 : 0 ≤ f) (hf : f ≤ 65535) : pick2 f p = if good f p = true then nst f p else -1 := by
  obtain ⟨l0, l1⟩ := low_lt f p hp hf0 hf
  have hd : -65536 ≤ 2 * (nst f p * 65536 - f * p) ∧ 2 * (nst f p * 65536 - f * p) < 65536 := by unfold nst; omega
  have hl : 0 ≤ f * p - f * p / 65536 * 65536 ∧ f * p - f * p / 65536 * 65536 < 65536 := by omega
  have hg := good_iff f p
  have r0 := rnd_iff (f * p / 65536) p f hp
  have r1 := rnd_iff (f * p / 65536 + 1) p f hp
  have r2 := rnd_iff (nst f p) p f hp
  have hb : good f p = true ∨ good f p = false := by cases good f p <;> simp
  have hfp : f * p ≤ 65535 * p := Int.mul_le_mul_of_nonneg_right hf (by omega)
  unfold pick2 pick1
  generalize f * p / 65536 = l at *
  generalize f * p = g at *
  generalize nst f p = d at *
  have dl : d = l ∨ d = l + 1 := by omega
  rcases hb with hb | hb
  · rw [if_pos hb]
    obtain ⟨g1, g2⟩ := hg.1 hb
    have g3 := r2.1 g2
    rcases dl with rfl | rfl
    · rw [if_pos g2]
      rw [if_neg (by intro ⟨_, _, c⟩; omega)]
    · by_cases c : rnd l p = f
      · have c2 := r0.1 c
        rw [if_pos c, if_pos ⟨g1, g2, .inr (by omega)⟩]
      · rw [if_neg c, if_pos ⟨g1, g2, .inl (by omega)⟩]
  · rw [show (if good f p = true then d else -1) = -1 from if_neg (by rw [hb]; decide)]
    have hn : ¬ (d < p ∧ rnd d p = f) := fun h => by rw [hg.2 h] at hb; cases hb
    have n0 : ¬ rnd l p = f := by
      intro h
      rcases dl with rfl | rfl
      · exact hn ⟨l1, h⟩
      · have h1 := r0.1 h
        exact hn ⟨by omega, r2.2 (by omega)⟩
    rw [if_neg n0, if_neg (fun h => ?_)]
    obtain ⟨a, b, _⟩ := h
    rcases dl with rfl | rfl
    · have h1 := r1.1 b
      exact hn ⟨l1, r2.2 (by omega)⟩
    · exact hn ⟨a, b⟩

/-! ### Digits -/
theorem decDigits_ten (n : Nat) (h : 10 ≤ n) : Lib.decDigits n = Lib.decDigits (n / 10) ++ [UInt8.ofNat (48 + n % 10)] := by
  rw [Lib.decDigits]; rw [dif_neg (by omega)]
theorem decDigits_one (n : Nat) (h : n < 10) : Lib.decDigits n = [UInt8.ofNat (48 + n)] := by
  rw [Lib.decDigits]; rw [dif_pos h]
theorem decDigits_pos (n : Nat) : 1 ≤ (Lib.decDigits n).length := by
  by_cases h : n < 10
  · rw [decDigits_one n h]; simp
  · rw [decDigits_ten n (by omega)]; simp
theorem decDigits_len (m : Nat) : ∀ n, n < 10 ^ m → 1 ≤ m → (Lib.decDigits n).length ≤ m := by
  induction m with
  | zero => intro n _ h; omega
  | succ m ih =>
    intro n h _
    by_cases h1 : n < 10
    · rw [decDigits_one n h1]; simp
    · rw [decDigits_ten n (by omega)]
      have hm : 1 ≤ m := by
        apply Classical.byContradiction
        intro hc
        have : m = 0 := by omega
        subst this
        simp at h; omega
      have := ih (n / 10) (by rw [Nat.pow_succ] at h; omega) hm
      simp; omega
/-- d in so many digits (zeros ahead). -/
def padded (d : Nat) (n : Nat) : List UInt8 := List.replicate (n - (Lib.decDigits d).length) 48 ++ Lib.decDigits d
theorem repeat_zero (c : Nat) : Lib.repeatL [48] c = List.replicate c 48 := by
  have := Lib.repeatL_replicate 48 1 c
  simpa using this
/-- The reference's loop. -/
def dgL : Nat → Nat → Nat → List UInt8 → List UInt8
  | 0, _, _, acc => acc
  | k + 1, n, least, acc => if 0 < n ∨ acc.length < least then dgL k (n / 10) least (UInt8.ofNat (48 + n % 10) :: acc) else acc
theorem dgL_zero (k : Nat) : ∀ (least : Nat) (acc : List UInt8), least ≤ acc.length + k → dgL k 0 least acc = List.replicate (least - acc.length) 48 ++ acc := by
  induction k with
  | zero => intro least acc h; rw [show least - acc.length = 0 by omega]; rfl
  | succ k ih =>
    intro least acc h
    simp only [dgL]
    by_cases hc : acc.length < least
    · rw [if_pos (.inr hc), show 0 / 10 = 0 from rfl, ih least _ (by simp; omega)]
      rw [show least - acc.length = (least - (acc.length + 1)) + 1 by omega, List.replicate_succ', List.append_assoc]
      rfl
    · rw [if_neg (by omega), show least - acc.length = 0 by omega]; rfl
theorem dgL_pos (n : Nat) : ∀ (k least : Nat) (acc : List UInt8), 0 < n → (Lib.decDigits n).length + least ≤ k + acc.length + (Lib.decDigits n).length → (Lib.decDigits n).length ≤ k →
    dgL k n least acc = dgL (k - (Lib.decDigits n).length) 0 least (Lib.decDigits n ++ acc) := by
  induction n using Nat.strongRecOn with
  | _ n ih =>
    intro k least acc hn hk hk2
    have hp := decDigits_pos n
    obtain ⟨k, rfl⟩ : ∃ m, k = m + 1 := ⟨k - 1, by omega⟩
    simp only [dgL]
    rw [if_pos (.inl hn)]
    by_cases h : n < 10
    · rw [decDigits_one n h, show n / 10 = 0 by omega, show n % 10 = n by omega]
      simp
    · rw [decDigits_ten n (by omega)] at hk hk2 ⊢
      simp only [List.length_append, List.length_cons, List.length_nil] at hk hk2 ⊢
      rw [ih (n / 10) (by omega) k least _ (by omega) (by simp; omega) (by omega), List.append_assoc]
      rw [show k + 1 - ((Lib.decDigits (n / 10)).length + (0 + 1)) = k - (Lib.decDigits (n / 10)).length by omega]
      rfl
theorem dgL_is (n least k : Nat) (h1 : 1 ≤ least) (hk : (Lib.decDigits n).length + least ≤ k) : dgL k n least [] = padded n least := by
  unfold padded
  by_cases hn : n = 0
  · subst hn
    rw [dgL_zero k least [] (by simp; omega), decDigits_one 0 (by omega)]
    simp only [List.length_nil, List.append_nil, Nat.sub_zero, List.length_cons]
    obtain ⟨l, rfl⟩ : ∃ m, least = m + 1 := ⟨least - 1, by omega⟩
    rw [List.replicate_succ']
    rfl
  · rw [dgL_pos n k least [] (by omega) (by simp; omega) (by omega), List.append_nil, dgL_zero _ _ _ (by omega)]
end Go.Proofs.YtjfpcgkgdajcfaaGreatDoor

/-
  fix.Text, as it stands at this seat: what it writes; no condition but the sizes named.
-/
open Go Go.Ev Go.Proofs
namespace Go.Proofs.YtjfpcgkgdajcfaaGreatDoor
set_option linter.unusedSimpArgs false
set_option linter.unusedVariables false
section
variable {k : Nat}
theorem F110_L1_eq (n : Nat) : ∀ (d m i : Nat) (p : Int), i + d = n → d < m → n ≤ 9 → p = 10 ^ i → F110_L1 k (n : Int) m p (i : Int) = some (10 ^ n) := by
  intro d
  induction d with
  | zero =>
    intro m i p hi hm hn hp
    cases m with
    | zero => omega
    | succ m =>
      have h1 : decide ((i : Int) < (n : Int)) = false := decide_eq_false (by omega)
      rw [F110_L1, h1, cond_false, hp, show i = n by omega]
  | succ d ih =>
    intro m i p hi hm hn hp
    cases m with
    | zero => omega
    | succ m =>
      have h1 : decide ((i : Int) < (n : Int)) = true := decide_eq_true (by omega)
      have hb : ∀ j : Fin 10, (1 : Int) ≤ 10 ^ j.val ∧ (10 : Int) ^ j.val ≤ 1000000000 := by decide
      have := hb ⟨i, by omega⟩
      simp only at this
      rw [F110_L1, h1, cond_true, w64_id (x := p * 10) (by omega) (by omega), w64_id (x := (i : Int) + 1) (by omega) (by omega)]
      exact ih m (i + 1) (p * 10) (by omega) (by omega) hn (by rw [hp, Int.pow_succ])
theorem F110_eq (n : Nat) (hn : n ≤ 9) : F110 (k + 12) (n : Int) = some (10 ^ n) := by
  have := F110_L1_eq (k := k + 11) n n (k + 11) 0 1 (by omega) (by omega) hn rfl
  rw [show ((0 : Nat) : Int) = 0 from rfl] at this
  rw [F110, this]; rfl
theorem F56_r (v p : Int) (hv0 : 0 ≤ v) (hv : v ≤ 1000000000) (hp : 0 < p) (hp1 : p ≤ 1000000000) : F56 (k + 2) (w64 (v * 65536)) p = some (rnd v p) := by
  have e1 : w64 (v * 65536) = v * 65536 := w64_id (by omega) (by omega)
  have e2 : w64 (2 * (v * 65536)) = 2 * (v * 65536) := w64_id (by omega) (by omega)
  have e3 : w64 (2 * (v * 65536) + p) = 2 * (v * 65536) + p := w64_id (by omega) (by omega)
  have e4 : w64 (2 * p) = 2 * p := w64_id (by omega) (by omega)
  have h0 : 0 ≤ 2 * (v * 65536) + p := by omega
  have hd0 : 0 ≤ (2 * (v * 65536) + p) / (2 * p) := Int.ediv_nonneg h0 (by omega)
  have hd1 : (2 * (v * 65536) + p) / (2 * p) ≤ 2 * (v * 65536) + p := Int.ediv_le_self _ h0
  have tn : decide ((2 * (v * 65536) + p).tmod (2 * p) < 0) = false := decide_eq_false (by
    rw [Int.tmod_eq_emod_of_nonneg h0]
    have := Int.emod_nonneg (2 * (v * 65536) + p) (show 2 * p ≠ 0 by omega)
    omega)
  have z : decide (2 * p = 0) = false := decide_eq_false (by omega)
  have td : w64 ((2 * (v * 65536) + p).tdiv (2 * p)) = rnd v p := by
    rw [Int.tdiv_eq_ediv_of_nonneg h0]
    exact w64_id (by omega) (by omega)
  unfold F56 F88
  simp only [e1, e2, e3, e4, z, tn, cond_false, Option.bind_some, td]
theorem F90_L6_eq {a f p : Int} (hf : a.tmod 65536 = f) (hf0 : 0 ≤ f) (hf1 : f ≤ 65535) (hp : 0 < p) (hp1 : p ≤ 100000) (m : Nat) :
    F90_L6 (k + 2) a p (m + 3) (-1) (w64 ((w64 (a.tmod 65536 * p)).tdiv 65536)) = some (pick2 f p) := by
  obtain ⟨l0, l1⟩ := low_lt f p hp hf0 hf1
  have hfp1 : f * p ≤ 65535 * 100000 := Int.mul_le_mul hf1 hp1 (by omega) (by omega)
  have hfp0 : 0 ≤ f * p := Int.mul_nonneg hf0 (by omega)
  have ew : w64 (a.tmod 65536 * p) = f * p := by rw [hf]; exact w64_id (by omega) (by omega)
  obtain ⟨L, hL⟩ : ∃ L, L = f * p / 65536 := ⟨_, rfl⟩
  have el : w64 ((w64 (a.tmod 65536 * p)).tdiv 65536) = L := by
    rw [ew, Int.tdiv_eq_ediv_of_nonneg hfp0, hL]; exact w64_id (by omega) (by omega)
  have elt : w64 (w64 ((w64 (a.tmod 65536 * p)).tdiv 65536) + 1) = L + 1 := by rw [el]; exact w64_id (by omega) (by omega)
  have hLb : 0 ≤ L ∧ L < p ∧ L ≤ 100000 := by omega
  have e1 : w64 (L + 1) = L + 1 := w64_id (by omega) (by omega)
  have e2 : w64 (L + 1 + 1) = L + 2 := by rw [w64_id (by omega) (by omega)]; omega
  have hp1b : -1 ≤ pick1 f p ∧ pick1 f p ≤ L := by unfold pick1; split <;> omega
  have step1 : ∀ m, F90_L6 (k + 2) a p (m + 1) (-1) L = F90_L6 (k + 2) a p m (pick1 f p) (L + 1) := by
    intro m
    have d1 : decide (L ≤ w64 (w64 ((w64 (a.tmod 65536 * p)).tdiv 65536) + 1)) = true := by rw [elt]; exact decide_eq_true (by omega)
    have d2 : decide (L < p) = true := decide_eq_true (by omega)
    have d3 : decide ((-1 : Int) < 0) = true := rfl
    rw [F90_L6]
    simp only [d1, cond_true, d2, F56_r L p (by omega) (by omega) hp (by omega), Option.bind_some, d3, e1]
    unfold pick1
    rw [← hL]
    by_cases c : rnd L p = f
    · rw [if_pos c, c, hf, beq_self_eq_true, cond_true]
    · rw [if_neg c, beq_eq_false_iff_ne.2 (by rw [hf]; exact c), cond_false]
  rw [el, step1 (m + 2)]
  have d1 : decide (L + 1 ≤ w64 (w64 ((w64 (a.tmod 65536 * p)).tdiv 65536) + 1)) = true := by rw [elt]; exact decide_eq_true (by omega)
  have d1' : decide (L + 2 ≤ w64 (w64 ((w64 (a.tmod 65536 * p)).tdiv 65536) + 1)) = false := by rw [elt]; exact decide_eq_false (by omega)
  have last : ∀ m x, F90_L6 (k + 2) a p (m + 1) x (L + 2) = some x := by
    intro m x
    rw [F90_L6, d1', cond_false]
  by_cases c : L + 1 < p
  · have d2 : decide (L + 1 < p) = true := decide_eq_true c
    have u1 : w64 (w64 ((L + 1) * 65536) - w64 (f * p)) = (L + 1) * 65536 - f * p := by
      rw [w64_id (x := f * p) (by omega) (by omega), w64_id (x := (L + 1) * 65536) (by omega) (by omega)]; exact w64_id (by omega) (by omega)
    have u2 : w64 (w64 (f * p) - w64 (pick1 f p * 65536)) = f * p - pick1 f p * 65536 := by
      rw [w64_id (x := f * p) (by omega) (by omega), w64_id (x := pick1 f p * 65536) (by omega) (by omega)]; exact w64_id (by omega) (by omega)
    rw [F90_L6, d1, cond_true, d2, cond_true, F56_r (L + 1) p (by omega) (by omega) hp (by omega), Option.bind_some, e2]
    have goal2 : pick2 f p = if rnd (L + 1) p = f ∧ (pick1 f p < 0 ∨ (L + 1) * 65536 - f * p < f * p - pick1 f p * 65536) then L + 1 else pick1 f p := by
      unfold pick2
      rw [← hL]
      by_cases h : rnd (L + 1) p = f ∧ (pick1 f p < 0 ∨ (L + 1) * 65536 - f * p < f * p - pick1 f p * 65536)
      · rw [if_pos h, if_pos ⟨c, h⟩]
      · rw [if_neg h, if_neg (fun h2 => h h2.2)]
    rw [goal2]
    by_cases c1 : rnd (L + 1) p = f
    · rw [c1, hf, beq_self_eq_true, cond_true]
      by_cases c2 : pick1 f p < 0
      · rw [decide_eq_true c2, cond_true, last, if_pos ⟨rfl, Or.inl c2⟩]
      · rw [decide_eq_false c2, cond_false]
        by_cases c3 : (L + 1) * 65536 - f * p < f * p - pick1 f p * 65536
        · have d4 : decide (w64 (w64 ((L + 1) * 65536) - w64 (f * p)) < w64 (w64 (f * p) - w64 (pick1 f p * 65536))) = true := by
            rw [u1, u2]; exact decide_eq_true c3
          rw [d4, cond_true, last, if_pos ⟨rfl, Or.inr c3⟩]
        · have d4 : decide (w64 (w64 ((L + 1) * 65536) - w64 (f * p)) < w64 (w64 (f * p) - w64 (pick1 f p * 65536))) = false := by
            rw [u1, u2]; exact decide_eq_false c3
          rw [d4, cond_false, last, if_neg (by rintro ⟨_, h | h⟩ <;> contradiction)]
    · rw [beq_eq_false_iff_ne.2 (by rw [hf]; exact c1), cond_false, last, if_neg (fun h => c1 h.1)]
  · have d2 : decide (L + 1 < p) = false := decide_eq_false c
    rw [F90_L6, d1, cond_true, d2, cond_false]
    unfold pick2
    rw [← hL, if_neg (fun h => c h.1)]
theorem F90_L3_eq {a f p : Int} (hf : (w64 (0 - a)).tmod 65536 = f) (hf0 : 0 ≤ f) (hf1 : f ≤ 65535) (hp : 0 < p) (hp1 : p ≤ 100000) (m : Nat) :
    F90_L3 (k + 2) a p (m + 3) (-1) (w64 ((w64 ((w64 (0 - a)).tmod 65536 * p)).tdiv 65536)) = some (pick2 f p) := by
  obtain ⟨l0, l1⟩ := low_lt f p hp hf0 hf1
  have hfp1 : f * p ≤ 65535 * 100000 := Int.mul_le_mul hf1 hp1 (by omega) (by omega)
  have hfp0 : 0 ≤ f * p := Int.mul_nonneg hf0 (by omega)
  have ew : w64 ((w64 (0 - a)).tmod 65536 * p) = f * p := by rw [hf]; exact w64_id (by omega) (by omega)
  obtain ⟨L, hL⟩ : ∃ L, L = f * p / 65536 := ⟨_, rfl⟩
  have el : w64 ((w64 ((w64 (0 - a)).tmod 65536 * p)).tdiv 65536) = L := by
    rw [ew, Int.tdiv_eq_ediv_of_nonneg hfp0, hL]; exact w64_id (by omega) (by omega)
  have elt : w64 (w64 ((w64 ((w64 (0 - a)).tmod 65536 * p)).tdiv 65536) + 1) = L + 1 := by rw [el]; exact w64_id (by omega) (by omega)
  have hLb : 0 ≤ L ∧ L < p ∧ L ≤ 100000 := by omega
  have e1 : w64 (L + 1) = L + 1 := w64_id (by omega) (by omega)
  have e2 : w64 (L + 1 + 1) = L + 2 := by rw [w64_id (by omega) (by omega)]; omega
  have hp1b : -1 ≤ pick1 f p ∧ pick1 f p ≤ L := by unfold pick1; split <;> omega
  have step1 : ∀ m, F90_L3 (k + 2) a p (m + 1) (-1) L = F90_L3 (k + 2) a p m (pick1 f p) (L + 1) := by
    intro m
    have d1 : decide (L ≤ w64 (w64 ((w64 ((w64 (0 - a)).tmod 65536 * p)).tdiv 65536) + 1)) = true := by rw [elt]; exact decide_eq_true (by omega)
    have d2 : decide (L < p) = true := decide_eq_true (by omega)
    have d3 : decide ((-1 : Int) < 0) = true := rfl
    rw [F90_L3]
    simp only [d1, cond_true, d2, F56_r L p (by omega) (by omega) hp (by omega), Option.bind_some, d3, e1]
    unfold pick1
    rw [← hL]
    by_cases c : rnd L p = f
    · rw [if_pos c, c, hf, beq_self_eq_true, cond_true]
    · rw [if_neg c, beq_eq_false_iff_ne.2 (by rw [hf]; exact c), cond_false]
  rw [el, step1 (m + 2)]
  have d1 : decide (L + 1 ≤ w64 (w64 ((w64 ((w64 (0 - a)).tmod 65536 * p)).tdiv 65536) + 1)) = true := by rw [elt]; exact decide_eq_true (by omega)
  have d1' : decide (L + 2 ≤ w64 (w64 ((w64 ((w64 (0 - a)).tmod 65536 * p)).tdiv 65536) + 1)) = false := by rw [elt]; exact decide_eq_false (by omega)
  have last : ∀ m x, F90_L3 (k + 2) a p (m + 1) x (L + 2) = some x := by
    intro m x
    rw [F90_L3, d1', cond_false]
  by_cases c : L + 1 < p
  · have d2 : decide (L + 1 < p) = true := decide_eq_true c
    have u1 : w64 (w64 ((L + 1) * 65536) - w64 (f * p)) = (L + 1) * 65536 - f * p := by
      rw [w64_id (x := f * p) (by omega) (by omega), w64_id (x := (L + 1) * 65536) (by omega) (by omega)]; exact w64_id (by omega) (by omega)
    have u2 : w64 (w64 (f * p) - w64 (pick1 f p * 65536)) = f * p - pick1 f p * 65536 := by
      rw [w64_id (x := f * p) (by omega) (by omega), w64_id (x := pick1 f p * 65536) (by omega) (by omega)]; exact w64_id (by omega) (by omega)
    rw [F90_L3, d1, cond_true, d2, cond_true, F56_r (L + 1) p (by omega) (by omega) hp (by omega), Option.bind_some, e2]
    have goal2 : pick2 f p = if rnd (L + 1) p = f ∧ (pick1 f p < 0 ∨ (L + 1) * 65536 - f * p < f * p - pick1 f p * 65536) then L + 1 else pick1 f p := by
      unfold pick2
      rw [← hL]
      by_cases h : rnd (L + 1) p = f ∧ (pick1 f p < 0 ∨ (L + 1) * 65536 - f * p < f * p - pick1 f p * 65536)
      · rw [if_pos h, if_pos ⟨c, h⟩]
      · rw [if_neg h, if_neg (fun h2 => h h2.2)]
    rw [goal2]
    by_cases c1 : rnd (L + 1) p = f
    · rw [c1, hf, beq_self_eq_true, cond_true]
      by_cases c2 : pick1 f p < 0
      · rw [decide_eq_true c2, cond_true, last, if_pos ⟨rfl, Or.inl c2⟩]
      · rw [decide_eq_false c2, cond_false]
        by_cases c3 : (L + 1) * 65536 - f * p < f * p - pick1 f p * 65536
        · have d4 : decide (w64 (w64 ((L + 1) * 65536) - w64 (f * p)) < w64 (w64 (f * p) - w64 (pick1 f p * 65536))) = true := by
            rw [u1, u2]; exact decide_eq_true c3
          rw [d4, cond_true, last, if_pos ⟨rfl, Or.inr c3⟩]
        · have d4 : decide (w64 (w64 ((L + 1) * 65536) - w64 (f * p)) < w64 (w64 (f * p) - w64 (pick1 f p * 65536))) = false := by
            rw [u1, u2]; exact decide_eq_false c3
          rw [d4, cond_false, last, if_neg (by rintro ⟨_, h | h⟩ <;> contradiction)]
    · rw [beq_eq_false_iff_ne.2 (by rw [hf]; exact c1), cond_false, last, if_neg (fun h => c1 h.1)]
  · have d2 : decide (L + 1 < p) = false := decide_eq_false c
    rw [F90_L3, d1, cond_true, d2, cond_false]
    unfold pick2
    rw [← hL, if_neg (fun h => c h.1)]
end
end Go.Proofs.YtjfpcgkgdajcfaaGreatDoor

/-
  fix.Text, as it stands at this seat: what it writes (its loop and the whole); no condition but the sizes named.
-/
open Go Go.Ev Go.Proofs
namespace Go.Proofs.YtjfpcgkgdajcfaaGreatDoor
set_option linter.unusedSimpArgs false
set_option linter.unusedVariables false
/-- The digits behind the point. -/
def fracN : Nat → Int → Nat → Int → List UInt8
  | 0, _, _, _ => []
  | j + 1, f, n, p => if good f p = true then padded (nst f p).toNat n else fracN j f (n + 1) (p * 10)
def fracS (f : Int) : List UInt8 := if f = 0 then [] else 46 :: fracN 5 f 1 10
def textS (a : Int) : List UInt8 := (if a < 0 then [45] else []) ++ (Lib.decDigits (a.natAbs / 65536) ++ fracS (a.natAbs % 65536 : Nat))
section
variable {k : Nat}
theorem X109_eq (a : Int) (h0 : 0 ≤ a) (h1 : a ≤ 9223372036854775807) : X109 (k + 1) a = some (Lib.decDigits a.toNat) := by
  rw [X109]
  rw [decide_eq_true ⟨by omega, h1⟩, cond_true]
  unfold Lib.itoa
  rw [if_neg (by omega)]
theorem X111_eq (c : Nat) (h : c ≤ 1000) : X111 (k + 1) [48] (c : Int) = some (List.replicate c 48) := by
  rw [X111]
  rw [decide_eq_true ⟨by omega, by omega, by simp; omega⟩, cond_true, Int.toNat_natCast, repeat_zero]
theorem sz {n m : Nat} (h : n ≤ 100000) (hm : m ≤ 100000) : decide (n + m < 2 ^ 62) = true := decide_eq_true (by
  have : (200001 : Nat) < 2 ^ 62 := by decide
  omega)
theorem F90_L4_eq {a f : Int} (hf : a.tmod 65536 = f) (hf0 : 0 ≤ f) (hf1 : f ≤ 65535) (x : List UInt8) (hx : x.length ≤ 100) : ∀ (j m n : Nat) (p : Int), j ≤ m → 1 ≤ n → n + j = 6 → p = 10 ^ n → 1 ≤ j →
    F90_L4 (k + 14) a x m (n : Int) = some ((([] : List UInt8) ++ x) ++ 46 :: fracN j f n p) := by
  intro j
  induction j with
  | zero => intro m n p hk hn hj hp h1; omega
  | succ j ih =>
    intro m n p hk hn hj hp h1
    obtain ⟨m, rfl⟩ : ∃ r, m = r + 1 := ⟨m - 1, by omega⟩
    have hpp : 0 < p ∧ p ≤ 100000 := by
      have h : ∀ j : Fin 6, (0 : Int) < 10 ^ j.val ∧ (10 : Int) ^ j.val ≤ 100000 := by decide
      have := h ⟨n, by omega⟩
      simp only at this
      rw [hp]; exact this
    have hs := F90_L6_eq (k := k + 12) hf hf0 hf1 hpp.1 hpp.2 (k + 11)
    rw [show k + 12 + 2 = k + 14 from rfl, show k + 11 + 3 = k + 14 from rfl, pick_is f p hpp.1 hf0 hf1] at hs
    have hpow := F110_eq (k := k + 2) n (by omega)
    rw [show k + 2 + 12 = k + 14 from rfl, ← hp] at hpow
    rw [F90_L4, hpow, Option.bind_some, hs, Option.bind_some]
    unfold fracN
    by_cases g : good f p = true
    · rw [if_pos g, if_pos g]
      have g2 := (good_iff f p).1 g
      have gn := nst_nonneg f p hpp.1 hf0
      have hlen := decDigits_len n (nst f p).toNat (by
        have e : ((10 ^ n : Nat) : Int) = (10 : Int) ^ n := by simp
        omega) hn
      have hlp := decDigits_pos (nst f p).toNat
      have d1 : decide ((0 : Int) ≤ nst f p) = true := decide_eq_true gn
      have e1 : w64 ((n : Int) - (((Lib.decDigits (nst f p).toNat).length : Nat) : Int)) = ((n - (Lib.decDigits (nst f p).toNat).length : Nat) : Int) := by
        rw [w64_id (by omega) (by omega)]; omega
      rw [d1, cond_true, X109_eq (k := k + 13) _ gn (by omega), Option.bind_some, e1, X111_eq (k := k + 13) _ (by omega)]
      simp only [Option.bind_some, List.length_append, List.length_cons, List.length_nil, List.length_replicate]
      rw [sz (by omega) (by omega), asrt_true, sz (by omega) (by omega), asrt_true, sz (by omega) (by omega), asrt_true]
      unfold padded
      simp
    · rw [if_neg g, if_neg g]
      have hj1 : 1 ≤ j := by
        apply Classical.byContradiction
        intro hc
        have hn5 : n = 5 := by omega
        subst hn5
        apply g
        rw [hp]
        exact good_five f hf0 hf1
      have d1 : decide ((0 : Int) ≤ -1) = false := rfl
      rw [d1, cond_false, w64_id (x := (n : Int) + 1) (by omega) (by omega)]
      exact ih m (n + 1) (p * 10) (by omega) (by omega) (by omega) (by rw [hp, Int.pow_succ]) hj1
theorem F90_L1_eq {a f : Int} (hf : (w64 (0 - a)).tmod 65536 = f) (hf0 : 0 ≤ f) (hf1 : f ≤ 65535) (x : List UInt8) (hx : x.length ≤ 100) : ∀ (j m n : Nat) (p : Int), j ≤ m → 1 ≤ n → n + j = 6 → p = 10 ^ n → 1 ≤ j →
    F90_L1 (k + 14) a x m (n : Int) = some ((([45] : List UInt8) ++ x) ++ 46 :: fracN j f n p) := by
  intro j
  induction j with
  | zero => intro m n p hk hn hj hp h1; omega
  | succ j ih =>
    intro m n p hk hn hj hp h1
    obtain ⟨m, rfl⟩ : ∃ r, m = r + 1 := ⟨m - 1, by omega⟩
    have hpp : 0 < p ∧ p ≤ 100000 := by
      have h : ∀ j : Fin 6, (0 : Int) < 10 ^ j.val ∧ (10 : Int) ^ j.val ≤ 100000 := by decide
      have := h ⟨n, by omega⟩
      simp only at this
      rw [hp]; exact this
    have hs := F90_L3_eq (k := k + 12) hf hf0 hf1 hpp.1 hpp.2 (k + 11)
    rw [show k + 12 + 2 = k + 14 from rfl, show k + 11 + 3 = k + 14 from rfl, pick_is f p hpp.1 hf0 hf1] at hs
    have hpow := F110_eq (k := k + 2) n (by omega)
    rw [show k + 2 + 12 = k + 14 from rfl, ← hp] at hpow
    rw [F90_L1, hpow, Option.bind_some, hs, Option.bind_some]
    unfold fracN
    by_cases g : good f p = true
    · rw [if_pos g, if_pos g]
      have g2 := (good_iff f p).1 g
      have gn := nst_nonneg f p hpp.1 hf0
      have hlen := decDigits_len n (nst f p).toNat (by
        have e : ((10 ^ n : Nat) : Int) = (10 : Int) ^ n := by simp
        omega) hn
      have hlp := decDigits_pos (nst f p).toNat
      have d1 : decide ((0 : Int) ≤ nst f p) = true := decide_eq_true gn
      have e1 : w64 ((n : Int) - (((Lib.decDigits (nst f p).toNat).length : Nat) : Int)) = ((n - (Lib.decDigits (nst f p).toNat).length : Nat) : Int) := by
        rw [w64_id (by omega) (by omega)]; omega
      rw [d1, cond_true, X109_eq (k := k + 13) _ gn (by omega), Option.bind_some, e1, X111_eq (k := k + 13) _ (by omega)]
      simp only [Option.bind_some, List.length_append, List.length_cons, List.length_nil, List.length_replicate]
      rw [sz (by omega) (by omega), asrt_true, sz (by omega) (by omega), asrt_true, sz (by omega) (by omega), asrt_true]
      unfold padded
      simp
    · rw [if_neg g, if_neg g]
      have hj1 : 1 ≤ j := by
        apply Classical.byContradiction
        intro hc
        have hn5 : n = 5 := by omega
        subst hn5
        apply g
        rw [hp]
        exact good_five f hf0 hf1
      have d1 : decide ((0 : Int) ≤ -1) = false := rfl
      rw [d1, cond_false, w64_id (x := (n : Int) + 1) (by omega) (by omega)]
      exact ih m (n + 1) (p * 10) (by omega) (by omega) (by omega) (by rw [hp, Int.pow_succ]) hj1
def isFix (a : Int) : Bool := decide (-2147483647 ≤ a ∧ a ≤ 2147483647)
theorem F108_eq (a : Int) : F108 (k + 3) false [.int .i64 a] = some (isFix a) := by
  have e0 : decide ((0 : Int) < (([AV.int .i64 a].length : Nat) : Int)) = true := rfl
  have e1 : decide (0 ≤ (0 : Int) ∧ (0 : Int) < (([AV.int .i64 a].length : Nat) : Int)) = true := rfl
  have e2 : okE false [.int .i64] [AV.int .i64 a] (Int.toNat 0) = true := rfl
  have e3 : AV.intOf (List.getD [AV.int .i64 a] (Int.toNat 0) .undef) = a := rfl
  have e4 : w64 ((0 : Int) + 1) = 1 := by decide
  have e5 : decide ((1 : Int) < (([AV.int .i64 a].length : Nat) : Int)) = false := rfl
  rw [F108, F108_L1]
  simp only [e0, e1, e2, e3, e4, cond_true, asrt_true]
  unfold isFix
  by_cases h1 : a < -2147483647
  · rw [decide_eq_true h1, cond_true, decide_eq_false (show ¬ (-2147483647 ≤ a ∧ a ≤ 2147483647) by omega)]; rfl
  · rw [decide_eq_false h1, cond_false]
    by_cases h2 : 2147483647 < a
    · rw [decide_eq_true h2, cond_true, decide_eq_false (show ¬ (-2147483647 ≤ a ∧ a ≤ 2147483647) by omega)]; rfl
    · rw [decide_eq_false h2, cond_false, F108_L1, e5, cond_false, decide_eq_true (show -2147483647 ≤ a ∧ a ≤ 2147483647 by omega)]; rfl
theorem F90_eq (a : Int) : F90 (k + 20) a = some (if isFix a = true then (textS a, 0) else ([], 2)) := by
  rw [F90, F108_eq (k := k + 16), Option.bind_some]
  by_cases hF : isFix a = true
  · rw [hF, cond_true, if_pos rfl]
    have hb := of_decide_eq_true hF
    have hlen : ∀ n : Nat, n ≤ 2147483647 → (Lib.decDigits n).length ≤ 10 := fun n hn => decDigits_len 10 n (by omega) (by omega)
    by_cases h0 : a < 0
    · have en : w64 (0 - a) = -a := by rw [w64_id (by omega) (by omega)]; omega
      have e1 : w64 ((w64 (0 - a)).tdiv 65536) = ((a.natAbs / 65536 : Nat) : Int) := by
        rw [en, Int.tdiv_eq_ediv_of_nonneg (by omega), w64_id (by omega) (by omega)]; omega
      have e2 : (w64 (0 - a)).tmod 65536 = ((a.natAbs % 65536 : Nat) : Int) := by
        rw [en, Int.tmod_eq_emod_of_nonneg (by omega)]; omega
      have hl := hlen (a.natAbs / 65536) (by omega)
      rw [decide_eq_true h0, cond_true, e1, X109_eq (k := k + 18) _ (by omega) (by omega), Option.bind_some, Int.toNat_natCast, sz (by omega) (by omega), asrt_true, e2]
      unfold textS fracS
      rw [if_pos h0]
      by_cases hz : a.natAbs % 65536 = 0
      · rw [hz]; simp
      · have hz2 : ((((a.natAbs % 65536 : Nat) : Int)) == 0) = false := by rw [beq_eq_false_iff_ne]; omega
        have := F90_L1_eq (k := k + 5) e2 (by omega) (by omega) (Lib.decDigits (a.natAbs / 65536)) (by omega) 5 (k + 19) 1 10 (by omega) (by omega) (by omega) rfl (by omega)
        rw [show k + 5 + 14 = k + 19 from rfl, show ((1 : Nat) : Int) = 1 from rfl] at this
        rw [hz2, cond_false, this, Option.bind_some, if_neg (by omega)]
        simp
    · have e1 : w64 (a.tdiv 65536) = ((a.natAbs / 65536 : Nat) : Int) := by
        rw [Int.tdiv_eq_ediv_of_nonneg (by omega), w64_id (by omega) (by omega)]; omega
      have e2 : a.tmod 65536 = ((a.natAbs % 65536 : Nat) : Int) := by
        rw [Int.tmod_eq_emod_of_nonneg (by omega)]; omega
      have hl := hlen (a.natAbs / 65536) (by omega)
      rw [decide_eq_false h0, cond_false, e1, X109_eq (k := k + 18) _ (by omega) (by omega), Option.bind_some, Int.toNat_natCast, sz (by omega) (by omega), asrt_true, e2]
      unfold textS fracS
      rw [if_neg h0]
      by_cases hz : a.natAbs % 65536 = 0
      · rw [hz]; simp
      · have hz2 : ((((a.natAbs % 65536 : Nat) : Int)) == 0) = false := by rw [beq_eq_false_iff_ne]; omega
        have := F90_L4_eq (k := k + 5) e2 (by omega) (by omega) (Lib.decDigits (a.natAbs / 65536)) (by omega) 5 (k + 19) 1 10 (by omega) (by omega) (by omega) rfl (by omega)
        rw [show k + 5 + 14 = k + 19 from rfl, show ((1 : Nat) : Int) = 1 from rfl] at this
        rw [hz2, cond_false, this, Option.bind_some, if_neg (by omega)]
        simp
  · have hF' : isFix a = false := by cases h : isFix a <;> simp_all
    rw [hF', cond_false, if_neg (by simp)]
end
end Go.Proofs.YtjfpcgkgdajcfaaGreatDoor

/-
  The reference's numerals, as they stand at this seat; no condition but the sizes named.
-/
open Go Go.Ev Go.Proofs
namespace Go.Proofs.YtjfpcgkgdajcfaaGreatDoor
set_option linter.unusedSimpArgs false
set_option linter.unusedVariables false
section
variable {k : Nat}
theorem enc_digit (n : Nat) : IntKind.i32.wrap (w64 (48 + ((n % 10 : Nat) : Int))) = ((48 + n % 10 : Nat) : Int) := by
  rw [w64_id (by omega) (by omega)]
  unfold IntKind.wrap
  simp [IntKind.bits, IntKind.signed]
  omega
theorem tmod_ten (n : Nat) : Int.tmod (n : Int) 10 = ((n % 10 : Nat) : Int) := by rw [Int.tmod_eq_emod_of_nonneg (by omega)]; omega
theorem tdiv_ten (n : Nat) (h : n ≤ 9000000000000000000) : w64 (Int.tdiv (n : Int) 10) = ((n / 10 : Nat) : Int) := by rw [Int.tdiv_eq_ediv_of_nonneg (by omega), w64_id (by omega) (by omega)]; omega
theorem F113_L1_eq (m : Nat) : ∀ (d n least : Nat) (acc : List UInt8), n < 10 ^ d → n ≤ 9000000000000000000 → d ≤ m → d + (least - acc.length) + 1 ≤ m → m + acc.length ≤ 50000 →
    F113_L1 k (least : Int) m (n : Int) acc = some (dgL m n least acc) := by
  induction m with
  | zero => intro d n least acc _ _ _ h2 _; omega
  | succ m ih =>
    intro d n least acc hd hn hdm hk2 hk3
    have i0 : decide (0 ≤ ((48 + n % 10 : Nat) : Int) ∧ ((48 + n % 10 : Nat) : Int) < 128) = true := decide_eq_true ⟨by omega, by omega⟩
    have hs := sz (n := [UInt8.ofNat (48 + n % 10)].length) (m := acc.length) (by simp) (by omega)
    rw [F113_L1, dgL, tmod_ten, tdiv_ten n hn, enc_digit, Int.toNat_natCast, i0, hs]
    simp only [asrt_true]
    by_cases h0 : (0 : Int) < (n : Int)
    · rw [decide_eq_true h0, cond_true, if_pos (.inl (by omega))]
      obtain ⟨d, rfl⟩ : ∃ j, d = j + 1 := by
        refine ⟨d - 1, ?_⟩
        have : d ≠ 0 := by intro e; subst e; simp at hd; omega
        omega
      exact ih d (n / 10) least _ (by rw [Nat.pow_succ] at hd; omega) (by omega) (by omega) (by simp; omega) (by simp; omega)
    · rw [decide_eq_false h0, cond_false]
      by_cases h1 : (acc.length : Int) < least
      · rw [decide_eq_true h1, cond_true, if_pos (.inr (by omega))]
        exact ih d (n / 10) least _ (by omega) (by omega) (by omega) (by simp; omega) (by simp; omega)
      · rw [decide_eq_false h1, cond_false, if_neg (by omega)]
theorem F113_eq (n least : Nat) (hk : 100 ≤ k) (hk2 : k ≤ 40000) (h1 : 1 ≤ least) (hl : least ≤ 10) (hn : n < 10000000000) : F113 (k + 1) (n : Int) (least : Int) = some (padded n least) := by
  rw [F113, F113_L1_eq (k := k) k 10 n least [] (by omega) (by omega) (by omega) (by simp; omega) (by simp; omega)]
  have hd := decDigits_len 10 n (by omega) (by omega)
  rw [dgL_is n least k h1 (by omega)]; rfl
theorem padded_one (n : Nat) : padded n 1 = Lib.decDigits n := by
  unfold padded
  have := decDigits_pos n
  rw [show 1 - (Lib.decDigits n).length = 0 by omega]; rfl
/-- Rounding, halves upwards. -/
theorem tm_small2 {a m : Int} (hm : 0 < m) : (a.tmod m < 0 ∧ a.tmod m = a % m - m ∧ a.tdiv m = a / m + 1) ∨ (0 ≤ a.tmod m ∧ a.tmod m = a % m ∧ a.tdiv m = a / m) := by
  have h1 := Int.emod_lt_of_pos a hm
  have h0 := Int.emod_nonneg a (show m ≠ 0 by omega)
  rw [Int.tmod_eq_emod, Int.tdiv_eq_ediv]
  by_cases h : 0 ≤ a ∨ m ∣ a
  · simp only [h, if_true]
    right; omega
  · simp only [h, if_false]
    left
    have : (m.natAbs : Int) = m := Int.natAbs_of_nonneg (by omega)
    rw [this, Int.sign_eq_one_of_pos hm]
    omega
theorem F114_eq (x d : Int) (hx0 : -1000000000000000 ≤ x) (hx : x ≤ 1000000000000000) (hd : 0 < d) (hd1 : d ≤ 1000000000) : F114 (k + 2) x d = some ((2 * x + d) / (2 * d)) := by
  have z : decide (d = 0) = false := decide_eq_false (by omega)
  have hm1 := Int.emod_lt_of_pos x hd
  have hm0 := Int.emod_nonneg x (show d ≠ 0 by omega)
  have hme := Int.mul_ediv_add_emod x d
  have hq0 : -1000000000000000 ≤ x / d := by
    rcases Int.le_total 0 x with h | h
    · have := Int.ediv_nonneg h (show 0 ≤ d by omega); omega
    · rw [Int.le_ediv_iff_mul_le hd]
      have : -1000000000000000 * d ≤ -1000000000000000 * 1 := Int.mul_le_mul_of_nonpos_left (by omega) (by omega)
      omega
  have hq1 : x / d ≤ 1000000000000000 := by
    rcases Int.le_total 0 x with h | h
    · have := Int.ediv_le_self d h; omega
    · have := Int.ediv_nonpos_of_nonpos_of_neg h hd; omega
  have hmul : x / d * d = x - x % d := by rw [Int.mul_comm]; omega
  have fl : F88 (k + 1) x d = some (x / d) := by
    unfold F88
    simp only [z, cond_false]
    have key := tm_small2 (a := x) hd
    rcases key with ⟨h, _, h8⟩ | ⟨h, _, h8⟩
    · rw [decide_eq_true h, cond_true, h8, w64_id (x := x / d + 1) (by omega) (by omega), show x / d + 1 - 1 = x / d by omega, w64_id (x := x / d) (by omega) (by omega)]
    · rw [decide_eq_false (by omega), cond_false, h8, w64_id (x := x / d) (by omega) (by omega)]
  have w1 : w64 (x / d * d) = x - x % d := by rw [hmul]; exact w64_id (by omega) (by omega)
  have w2 : w64 (x - (x - x % d)) = x % d := by rw [show x - (x - x % d) = x % d by omega]; exact w64_id (by omega) (by omega)
  have w3 : w64 (d - x % d) = d - x % d := w64_id (by omega) (by omega)
  rw [F114, fl, Option.bind_some, w1, w2, w3]
  have h2 : (2 * x + d) / (2 * d) = if d - x % d ≤ x % d then x / d + 1 else x / d := by
    have e : 2 * x + d = (2 * (x % d) + d) + (x / d) * (2 * d) := by
      have : x / d * (2 * d) = 2 * (x / d * d) := by rw [Int.mul_left_comm]
      rw [this, hmul]; omega
    rw [e, Int.add_mul_ediv_right _ _ (by omega)]
    split
    · have : (2 * (x % d) + d) / (2 * d) = 1 := by
        apply Int.le_antisymm
        · have : (2 * (x % d) + d) / (2 * d) < 2 := by rw [Int.ediv_lt_iff_lt_mul (by omega)]; omega
          omega
        · rw [Int.le_ediv_iff_mul_le (by omega)]; omega
      omega
    · have : (2 * (x % d) + d) / (2 * d) = 0 := Int.ediv_eq_zero_of_lt (by omega) (by omega)
      omega
  rw [h2]
  by_cases h : d - x % d ≤ x % d
  · rw [decide_eq_true h, cond_true, if_pos h, w64_id (by omega) (by omega)]
  · rw [decide_eq_false h, cond_false, if_neg h]
end
end Go.Proofs.YtjfpcgkgdajcfaaGreatDoor

/-
  The reference's Text, as it stands at this seat: what it writes; no condition but the sizes named.
-/
open Go Go.Ev Go.Proofs
namespace Go.Proofs.YtjfpcgkgdajcfaaGreatDoor
set_option linter.unusedSimpArgs false
set_option linter.unusedVariables false
section
variable {k : Nat}
theorem F91_L2_eq {a f : Int} (hf : (mx2 a (w64 (0 - a))).tmod 65536 = f) (hf0 : 0 ≤ f) (hf1 : f ≤ 65535) (x : List UInt8) (hx : x.length ≤ 100) (hk : k ≤ 30000) : ∀ (j m n : Nat) (p : Int), j ≤ m → 1 ≤ n → n + j = 6 → p = 10 ^ n → 1 ≤ j →
    F91_L2 (k + 102) a x m (n : Int) p = some ((([] : List UInt8) ++ x) ++ 46 :: fracN j f n p) := by
  intro j
  induction j with
  | zero => intro m n p hk hn hj hp h1; omega
  | succ j ih =>
    intro m n p hk hn hj hp h1
    obtain ⟨m, rfl⟩ : ∃ r, m = r + 1 := ⟨m - 1, by omega⟩
    have hpp : 0 < p ∧ p ≤ 100000 := by
      have h : ∀ j : Fin 6, (0 : Int) < 10 ^ j.val ∧ (10 : Int) ^ j.val ≤ 100000 := by decide
      have := h ⟨n, by omega⟩
      simp only at this
      rw [hp]; exact this
    have hfp1 : f * p ≤ 65535 * 100000 := Int.mul_le_mul hf1 hpp.2 (by omega) (by omega)
    have hfp0 : 0 ≤ f * p := Int.mul_nonneg hf0 (by omega)
    have gn := nst_nonneg f p hpp.1 hf0
    have gb : nst f p ≤ 100001 := by unfold nst; omega
    have e1 : w64 (w64 (0 - (mx2 a (w64 (0 - a))).tmod 65536) * p) = -(f * p) := by
      rw [hf, w64_id (x := 0 - f) (by omega) (by omega), show (0 - f) * p = -(f * p) by rw [Int.sub_mul]; omega]
      exact w64_id (by omega) (by omega)
    have h1' := F114_eq (k := k + 100) (-(f * p)) 65536 (by omega) (by omega) (by omega) (by omega)
    rw [show k + 100 + 2 = k + 102 from rfl] at h1'
    have e2 : w64 (0 - (2 * -(f * p) + 65536) / (2 * 65536)) = nst f p := by
      have : 0 - (2 * -(f * p) + 65536) / (2 * 65536) = nst f p := by unfold nst; omega
      rw [this]; exact w64_id (by omega) (by omega)
    rw [F91_L2, e1, h1', Option.bind_some, e2]
    unfold fracN
    by_cases g1 : nst f p < p
    · have e3 : w64 (nst f p * 65536) = nst f p * 65536 := w64_id (by omega) (by omega)
      have h2' := F114_eq (k := k + 100) (nst f p * 65536) p (by omega) (by omega) (by omega) (by omega)
      rw [show k + 100 + 2 = k + 102 from rfl] at h2'
      have e4 : (2 * (nst f p * 65536) + p) / (2 * p) = rnd (nst f p) p := rfl
      rw [decide_eq_true g1, cond_true, e3, h2', Option.bind_some, e4]
      by_cases g2 : rnd (nst f p) p = f
      · have g : good f p = true := (good_iff f p).2 ⟨g1, g2⟩
        rw [g2, hf, beq_self_eq_true, cond_true, if_pos g]
        have e5 : F113 (k + 102) (nst f p) (n : Int) = some (padded (nst f p).toNat n) := by
          have := F113_eq (k := k + 101) (nst f p).toNat n (by omega) (by omega) hn (by omega) (by omega)
          rw [show k + 101 + 1 = k + 102 from rfl, Int.toNat_of_nonneg gn] at this
          exact this
        have hlen := decDigits_len n (nst f p).toNat (by
          have e : ((10 ^ n : Nat) : Int) = (10 : Int) ^ n := by simp
          omega) hn
        have hpl : (padded (nst f p).toNat n).length ≤ 20 := by unfold padded; rw [List.length_append, List.length_replicate]; omega
        rw [e5]
        simp only [Option.bind_some, List.length_append, List.length_cons, List.length_nil]
        rw [sz (by omega) (by omega), asrt_true, sz (by omega) (by omega), asrt_true]
        simp
      · have g : ¬ good f p = true := fun h => g2 ((good_iff f p).1 h).2
        rw [beq_eq_false_iff_ne.2 (by rw [hf]; exact g2), cond_false, if_neg g]
        have hj1 : 1 ≤ j := by
          apply Classical.byContradiction
          intro hc
          have hn5 : n = 5 := by omega
          subst hn5
          apply g
          rw [hp]
          exact good_five f hf0 hf1
        rw [w64_id (x := (n : Int) + 1) (by omega) (by omega), w64_id (x := p * 10) (by omega) (by omega)]
        exact ih m (n + 1) (p * 10) (by omega) (by omega) (by omega) (by rw [hp, Int.pow_succ]) hj1
    · have g : ¬ good f p = true := fun h => g1 ((good_iff f p).1 h).1
      rw [decide_eq_false g1, cond_false, if_neg g]
      have hj1 : 1 ≤ j := by
        apply Classical.byContradiction
        intro hc
        have hn5 : n = 5 := by omega
        subst hn5
        apply g
        rw [hp]
        exact good_five f hf0 hf1
      rw [w64_id (x := (n : Int) + 1) (by omega) (by omega), w64_id (x := p * 10) (by omega) (by omega)]
      exact ih m (n + 1) (p * 10) (by omega) (by omega) (by omega) (by rw [hp, Int.pow_succ]) hj1
theorem F91_L1_eq {a f : Int} (hf : (mx2 a (w64 (0 - a))).tmod 65536 = f) (hf0 : 0 ≤ f) (hf1 : f ≤ 65535) (x : List UInt8) (hx : x.length ≤ 100) (hk : k ≤ 30000) : ∀ (j m n : Nat) (p : Int), j ≤ m → 1 ≤ n → n + j = 6 → p = 10 ^ n → 1 ≤ j →
    F91_L1 (k + 102) a x m (n : Int) p = some ((([45] : List UInt8) ++ x) ++ 46 :: fracN j f n p) := by
  intro j
  induction j with
  | zero => intro m n p hk hn hj hp h1; omega
  | succ j ih =>
    intro m n p hk hn hj hp h1
    obtain ⟨m, rfl⟩ : ∃ r, m = r + 1 := ⟨m - 1, by omega⟩
    have hpp : 0 < p ∧ p ≤ 100000 := by
      have h : ∀ j : Fin 6, (0 : Int) < 10 ^ j.val ∧ (10 : Int) ^ j.val ≤ 100000 := by decide
      have := h ⟨n, by omega⟩
      simp only at this
      rw [hp]; exact this
    have hfp1 : f * p ≤ 65535 * 100000 := Int.mul_le_mul hf1 hpp.2 (by omega) (by omega)
    have hfp0 : 0 ≤ f * p := Int.mul_nonneg hf0 (by omega)
    have gn := nst_nonneg f p hpp.1 hf0
    have gb : nst f p ≤ 100001 := by unfold nst; omega
    have e1 : w64 (w64 (0 - (mx2 a (w64 (0 - a))).tmod 65536) * p) = -(f * p) := by
      rw [hf, w64_id (x := 0 - f) (by omega) (by omega), show (0 - f) * p = -(f * p) by rw [Int.sub_mul]; omega]
      exact w64_id (by omega) (by omega)
    have h1' := F114_eq (k := k + 100) (-(f * p)) 65536 (by omega) (by omega) (by omega) (by omega)
    rw [show k + 100 + 2 = k + 102 from rfl] at h1'
    have e2 : w64 (0 - (2 * -(f * p) + 65536) / (2 * 65536)) = nst f p := by
      have : 0 - (2 * -(f * p) + 65536) / (2 * 65536) = nst f p := by unfold nst; omega
      rw [this]; exact w64_id (by omega) (by omega)
    rw [F91_L1, e1, h1', Option.bind_some, e2]
    unfold fracN
    by_cases g1 : nst f p < p
    · have e3 : w64 (nst f p * 65536) = nst f p * 65536 := w64_id (by omega) (by omega)
      have h2' := F114_eq (k := k + 100) (nst f p * 65536) p (by omega) (by omega) (by omega) (by omega)
      rw [show k + 100 + 2 = k + 102 from rfl] at h2'
      have e4 : (2 * (nst f p * 65536) + p) / (2 * p) = rnd (nst f p) p := rfl
      rw [decide_eq_true g1, cond_true, e3, h2', Option.bind_some, e4]
      by_cases g2 : rnd (nst f p) p = f
      · have g : good f p = true := (good_iff f p).2 ⟨g1, g2⟩
        rw [g2, hf, beq_self_eq_true, cond_true, if_pos g]
        have e5 : F113 (k + 102) (nst f p) (n : Int) = some (padded (nst f p).toNat n) := by
          have := F113_eq (k := k + 101) (nst f p).toNat n (by omega) (by omega) hn (by omega) (by omega)
          rw [show k + 101 + 1 = k + 102 from rfl, Int.toNat_of_nonneg gn] at this
          exact this
        have hlen := decDigits_len n (nst f p).toNat (by
          have e : ((10 ^ n : Nat) : Int) = (10 : Int) ^ n := by simp
          omega) hn
        have hpl : (padded (nst f p).toNat n).length ≤ 20 := by unfold padded; rw [List.length_append, List.length_replicate]; omega
        rw [e5]
        simp only [Option.bind_some, List.length_append, List.length_cons, List.length_nil]
        rw [sz (by omega) (by omega), asrt_true, sz (by omega) (by omega), asrt_true]
        simp
      · have g : ¬ good f p = true := fun h => g2 ((good_iff f p).1 h).2
        rw [beq_eq_false_iff_ne.2 (by rw [hf]; exact g2), cond_false, if_neg g]
        have hj1 : 1 ≤ j := by
          apply Classical.byContradiction
          intro hc
          have hn5 : n = 5 := by omega
          subst hn5
          apply g
          rw [hp]
          exact good_five f hf0 hf1
        rw [w64_id (x := (n : Int) + 1) (by omega) (by omega), w64_id (x := p * 10) (by omega) (by omega)]
        exact ih m (n + 1) (p * 10) (by omega) (by omega) (by omega) (by rw [hp, Int.pow_succ]) hj1
    · have g : ¬ good f p = true := fun h => g1 ((good_iff f p).1 h).1
      rw [decide_eq_false g1, cond_false, if_neg g]
      have hj1 : 1 ≤ j := by
        apply Classical.byContradiction
        intro hc
        have hn5 : n = 5 := by omega
        subst hn5
        apply g
        rw [hp]
        exact good_five f hf0 hf1
      rw [w64_id (x := (n : Int) + 1) (by omega) (by omega), w64_id (x := p * 10) (by omega) (by omega)]
      exact ih m (n + 1) (p * 10) (by omega) (by omega) (by omega) (by rw [hp, Int.pow_succ]) hj1
theorem F91_eq (hk : k ≤ 20000) (a : Int) : F91 (k + 110) a = some (if isFix a = true then (textS a, 0) else ([], 2)) := by
  rw [F91, F108_eq (k := k + 106), Option.bind_some]
  by_cases hF : isFix a = true
  · rw [hF, cond_true, if_pos rfl]
    have hb := of_decide_eq_true hF
    have hlen : ∀ n : Nat, n ≤ 2147483647 → (Lib.decDigits n).length ≤ 10 := fun n hn => decDigits_len 10 n (by omega) (by omega)
    have em : mx2 a (w64 (0 - a)) = (a.natAbs : Int) := by rw [w64_id (by omega) (by omega)]; unfold mx2; split <;> omega
    have e1 : w64 ((mx2 a (w64 (0 - a))).tdiv 65536) = ((a.natAbs / 65536 : Nat) : Int) := by
      rw [em, Int.tdiv_eq_ediv_of_nonneg (by omega), w64_id (by omega) (by omega)]; omega
    have e2 : (mx2 a (w64 (0 - a))).tmod 65536 = ((a.natAbs % 65536 : Nat) : Int) := by
      rw [em, Int.tmod_eq_emod_of_nonneg (by omega)]; omega
    have hl := hlen (a.natAbs / 65536) (by omega)
    have e3 := F113_eq (k := k + 108) (a.natAbs / 65536) 1 (by omega) (by omega) (by omega) (by omega) (by omega)
    rw [show k + 108 + 1 = k + 109 from rfl, show ((1 : Nat) : Int) = 1 from rfl, padded_one] at e3
    unfold textS fracS
    by_cases h0 : a < 0
    · rw [decide_eq_true h0, cond_true, e1, e3, Option.bind_some, sz (by omega) (by omega), asrt_true, e2, if_pos h0]
      by_cases hz : a.natAbs % 65536 = 0
      · rw [hz]; simp
      · have hz2 : ((((a.natAbs % 65536 : Nat) : Int)) == 0) = false := by rw [beq_eq_false_iff_ne]; omega
        have := F91_L1_eq (k := k + 7) e2 (by omega) (by omega) (Lib.decDigits (a.natAbs / 65536)) (by omega) (by omega) 5 (k + 109) 1 10 (by omega) (by omega) (by omega) rfl (by omega)
        rw [show k + 7 + 102 = k + 109 from rfl, show ((1 : Nat) : Int) = 1 from rfl] at this
        rw [hz2, cond_false, this, Option.bind_some, if_neg (by omega)]
        simp
    · rw [decide_eq_false h0, cond_false, e1, e3, Option.bind_some, sz (by omega) (by omega), asrt_true, e2, if_neg h0]
      by_cases hz : a.natAbs % 65536 = 0
      · rw [hz]; simp
      · have hz2 : ((((a.natAbs % 65536 : Nat) : Int)) == 0) = false := by rw [beq_eq_false_iff_ne]; omega
        have := F91_L2_eq (k := k + 7) e2 (by omega) (by omega) (Lib.decDigits (a.natAbs / 65536)) (by omega) (by omega) 5 (k + 109) 1 10 (by omega) (by omega) (by omega) rfl (by omega)
        rw [show k + 7 + 102 = k + 109 from rfl, show ((1 : Nat) : Int) = 1 from rfl] at this
        rw [hz2, cond_false, this, Option.bind_some, if_neg (by omega)]
        simp
  · have hF' : isFix a = false := by cases h : isFix a <;> simp_all
    rw [hF', cond_false, if_neg (by simp)]
end
end Go.Proofs.YtjfpcgkgdajcfaaGreatDoor

/-
  A point's text, here and in the reference: the same; no condition but the sizes named.
-/
open Go Go.Ev Go.Proofs
namespace Go.Proofs.YtjfpcgkgdajcfaaGreatDoor
set_option linter.unusedSimpArgs false
set_option linter.unusedVariables false
theorem fracN_len (f : Int) (hf0 : 0 ≤ f) : ∀ (j n : Nat) (p : Int), n + j = 6 → 1 ≤ n → p = 10 ^ n → (fracN j f n p).length ≤ 6 := by
  intro j
  induction j with
  | zero => intro n p _ _ _; simp [fracN]
  | succ j ih =>
    intro n p hn h1 hp
    unfold fracN
    split
    · rename_i g
      have g2 := (good_iff f p).1 g
      have hpp : 0 < p := by
        have h : ∀ j : Fin 6, (0 : Int) < 10 ^ j.val := by decide
        rw [hp]; exact h ⟨n, by omega⟩
      have gn := nst_nonneg f p hpp hf0
      have := decDigits_len n (nst f p).toNat (by
        have e : ((10 ^ n : Nat) : Int) = (10 : Int) ^ n := by simp
        omega) h1
      unfold padded
      rw [List.length_append, List.length_replicate]; omega
    · exact ih (n + 1) (p * 10) (by omega) (by omega) (by rw [hp, Int.pow_succ])
theorem textS_len (a : Int) (h : isFix a = true) : (textS a).length ≤ 20 := by
  have hb := of_decide_eq_true h
  have h1 := decDigits_len 10 (a.natAbs / 65536) (by omega) (by omega)
  have h2 := fracN_len ((a.natAbs % 65536 : Nat) : Int) (by omega) 5 1 10 (by omega) (by omega) rfl
  unfold textS fracS
  rw [List.length_append, List.length_append]
  split <;> split <;> simp only [List.length_cons, List.length_nil] <;> omega
/-- What is written of a number. -/
def txt (a : Int) : List UInt8 := if isFix a = true then textS a else []
theorem txt_len (a : Int) : (txt a).length ≤ 20 := by
  unfold txt; split
  · rename_i h; exact textS_len a h
  · simp
def ptS (a b : Int) : List UInt8 := (((([40] : List UInt8) ++ txt a) ++ ([44] : List UInt8)) ++ txt b) ++ ([41] : List UInt8)
theorem F60_eq {k : Nat} (a b : Int) : F60 (k + 21) a b = some (ptS a b) := by
  have ha := txt_len a
  have hb := txt_len b
  have f : ∀ x, ∃ e, F90 (k + 20) x = some (txt x, e) := fun x => by
    rw [F90_eq]; unfold txt; split
    · exact ⟨_, rfl⟩
    · exact ⟨_, rfl⟩
  obtain ⟨e1, h1⟩ := f a
  obtain ⟨e2, h2⟩ := f b
  rw [F60, h1, Option.bind_some, h2, Option.bind_some]
  simp only [List.length_append, List.length_cons, List.length_nil]
  rw [sz (by omega) (by omega), asrt_true, sz (by omega) (by omega), asrt_true, sz (by omega) (by omega), asrt_true, sz (by omega) (by omega), asrt_true]
  rfl
theorem F64_eq {k : Nat} (hk : k ≤ 20000) (a b : Int) : F64 (k + 111) a b = some (ptS a b) := by
  have ha := txt_len a
  have hb := txt_len b
  have f : ∀ x, ∃ e, F91 (k + 110) x = some (txt x, e) := fun x => by
    rw [F91_eq hk]; unfold txt; split
    · exact ⟨_, rfl⟩
    · exact ⟨_, rfl⟩
  obtain ⟨e1, h1⟩ := f a
  obtain ⟨e2, h2⟩ := f b
  rw [F64, h1, Option.bind_some, h2, Option.bind_some]
  simp only [List.length_append, List.length_cons, List.length_nil]
  rw [sz (by omega) (by omega), asrt_true, sz (by omega) (by omega), asrt_true, sz (by omega) (by omega), asrt_true, sz (by omega) (by omega), asrt_true]
  rfl
end Go.Proofs.YtjfpcgkgdajcfaaGreatDoor

/-
  Reading numerals, plainly; no condition but the sizes named.
-/
open Go Go.Ev Go.Proofs
namespace Go.Proofs.YtjfpcgkgdajcfaaGreatDoor
set_option linter.unusedSimpArgs false
set_option linter.unusedVariables false

def isDg (c : UInt8) : Bool := decide (48 ≤ c.toNat) && decide (c.toNat ≤ 57)
def dgStep (acc : Nat) (c : UInt8) : Nat := acc * 10 + (c.toNat - 48)
def numF (acc : Nat) (l : List UInt8) : Nat := l.foldl dgStep acc
theorem numF_nil (acc : Nat) : numF acc [] = acc := rfl
theorem numF_cons (acc : Nat) (c : UInt8) (l : List UInt8) : numF acc (c :: l) = numF (dgStep acc c) l := by unfold numF; rw [List.foldl_cons]
def num (l : List UInt8) : Nat := numF 0 l
/-- At least so many digits, and at most nine. -/
def okL (least : Nat) (l : List UInt8) : Bool := decide (least ≤ l.length) && decide (l.length ≤ 9) && l.all isDg
/-- What stands ahead of the first point, and behind it. -/
def cutD (l : List UInt8) : List UInt8 × List UInt8 × Bool := (l.takeWhile (· != 46), (l.dropWhile (· != 46)).tail, (l.dropWhile (· != 46)) != [])
def told (a : Int) : Int × Int := if isFix a = true then (a, 0) else (0, 17)
def readS (neg : Bool) (w part : List UInt8) : Int × Int :=
  told (if neg = true then -((num w : Int) * 65536 + rnd (num part) (10 ^ part.length)) else (num w : Int) * 65536 + rnd (num part) (10 ^ part.length))
def parse1 (neg : Bool) (l : List UInt8) : Int × Int :=
  if (if (cutD l).2.2 = true then okL 0 (cutD l).1 && okL 1 (cutD l).2.1 else okL 1 (cutD l).1) = true then readS neg (cutD l).1 (cutD l).2.1 else (0, 30)
def parseS (l : List UInt8) : Int × Int := match l with
  | 45 :: r => parse1 true r
  | _ => parse1 false l

/-! ### The library's words -/
theorem index_dot (l : List UInt8) : (l.dropWhile (· != 46) = [] → Lib.index l [46] = -1) ∧ (l.dropWhile (· != 46) ≠ [] → Lib.index l [46] = ((l.takeWhile (· != 46)).length : Int)) := by
  induction l with
  | nil => exact ⟨fun _ => rfl, fun h => absurd rfl h⟩
  | cons b l ih =>
    unfold Lib.index
    by_cases h : b = 46
    · subst h
      rw [List.dropWhile_cons_of_neg (by simp), List.takeWhile_cons_of_neg (by simp)]
      exact ⟨fun h => (by cases h), fun _ => by simp [List.isPrefixOf]⟩
    · have h2 : (b != 46) = true := by simpa using h
      rw [List.dropWhile_cons_of_pos (p := fun x => x != 46) h2, List.takeWhile_cons_of_pos (p := fun x => x != 46) h2]
      have h3 : List.isPrefixOf [46] (b :: l) = false := by
        simp only [List.isPrefixOf, Bool.and_true]
        exact beq_eq_false_iff_ne.2 (fun e => h e.symm)
      rw [h3]
      constructor
      · intro hd
        rw [ih.1 hd]; decide
      · intro hd
        rw [ih.2 hd]
        have : ¬ ((((l.takeWhile (· != 46)).length : Int) == -1) = true) := by simp
        rw [if_neg (by decide), if_neg this, List.length_cons]
        omega
theorem take_drop (l : List UInt8) : l.takeWhile (· != 46) ++ l.dropWhile (· != 46) = l := List.takeWhile_append_dropWhile
theorem cut_dot (l : List UInt8) : Lib.cut l [46] = cutD l := by
  unfold Lib.cut cutD
  have hi := index_dot l
  have ht := take_drop l
  by_cases hd : l.dropWhile (· != 46) = []
  · rw [hi.1 hd, if_neg (by omega), hd]
    rw [hd, List.append_nil] at ht
    rw [ht]; rfl
  · rw [hi.2 hd, if_pos (by omega)]
    have e1 := @List.take_left _ (l.takeWhile (· != 46)) (l.dropWhile (· != 46))
    have e2 := @List.drop_left _ (l.takeWhile (· != 46)) (l.dropWhile (· != 46))
    rw [ht] at e1 e2
    have e3 : l.drop ((l.takeWhile (· != 46)).length + ([46] : List UInt8).length) = (l.dropWhile (· != 46)).tail := by
      rw [← List.drop_drop, e2]
      cases l.dropWhile (· != 46) <;> rfl
    rw [Int.toNat_natCast, e1, e3]
    simp [hd]
theorem dW_nil (p : UInt8 → Bool) (l : List UInt8) : l.dropWhile p = [] ↔ ∀ c ∈ l, p c = true := by
  induction l with
  | nil => simp
  | cons b l ih =>
    by_cases h : p b = true
    · rw [List.dropWhile_cons_of_pos h, ih]; simp [h]
    · rw [List.dropWhile_cons_of_neg h]
      constructor
      · intro e; cases e
      · intro e; exact absurd (e b (by simp)) h
theorem trim_digits (l : List UInt8) : (Lib.trimS l [48, 49, 50, 51, 52, 53, 54, 55, 56, 57] = []) ↔ l.all isDg = true := by
  have hm : ∀ c : UInt8, ([48, 49, 50, 51, 52, 53, 54, 55, 56, 57] : List UInt8).contains c = isDg c := by
    have : ∀ n : Fin 256, ([48, 49, 50, 51, 52, 53, 54, 55, 56, 57] : List UInt8).contains (UInt8.ofNat n.val) = isDg (UInt8.ofNat n.val) := by decide +kernel
    intro c
    have h := this ⟨c.toNat, c.toNat_lt⟩
    simpa using h
  unfold Lib.trimS Lib.trimLeftS Lib.trimRightS
  have hf : (fun x => ([48, 49, 50, 51, 52, 53, 54, 55, 56, 57] : List UInt8).contains x) = isDg := funext hm
  rw [hf]
  constructor
  · intro h
    rw [dW_nil] at h
    rw [List.all_eq_true]
    intro c hc
    have hs : l.reverse.takeWhile isDg ++ l.reverse.dropWhile isDg = l.reverse := List.takeWhile_append_dropWhile
    have hc2 : c ∈ l.reverse := by simpa using hc
    rw [← hs, List.mem_append] at hc2
    rcases hc2 with h1 | h1
    · exact List.all_eq_true.1 (List.all_takeWhile (p := isDg) (l := l.reverse)) c h1
    · exact h c (by simpa using h1)
  · intro h
    rw [List.all_eq_true] at h
    have h2 : l.reverse.dropWhile isDg = [] := by
      rw [dW_nil]
      intro c hc
      exact h c (by simpa using hc)
    rw [h2]; rfl
def dropSign (l : List UInt8) : List UInt8 := match l with
  | 45 :: r => r
  | _ => l
theorem numF_lt (l : List UInt8) : ∀ acc, l.all isDg = true → numF acc l < (acc + 1) * 10 ^ l.length := by
  induction l with
  | nil => intro acc _; rw [numF_nil]; simp
  | cons c l ih =>
    intro acc h
    simp only [List.all_cons, Bool.and_eq_true, isDg, decide_eq_true_eq] at h
    have := ih (dgStep acc c) h.2
    rw [numF_cons, List.length_cons, Nat.pow_succ]
    have h3 : dgStep acc c + 1 ≤ (acc + 1) * 10 := by unfold dgStep; omega
    have h4 := Nat.mul_le_mul_right (10 ^ l.length) h3
    rw [Nat.mul_assoc, Nat.mul_comm 10 (10 ^ l.length)] at h4
    exact Nat.lt_of_lt_of_le this h4
theorem num_lt (least : Nat) (l : List UInt8) (h : okL least l = true) : num l < 10 ^ l.length ∧ num l < 1000000000 ∧ l.length ≤ 9 ∧ l.all isDg = true := by
  unfold okL at h
  simp only [Bool.and_eq_true, decide_eq_true_eq] at h
  have h1 := numF_lt l 0 h.2
  have h2 : 10 ^ l.length ≤ 1000000000 := Nat.pow_le_pow_right (n := 10) (by omega) h.1.2
  unfold num
  generalize 10 ^ l.length = P at *
  refine ⟨by omega, by omega, h.1.2, h.2⟩
theorem decFrom_num (l : List UInt8) : ∀ acc, l.all isDg = true → Lib.decFrom acc l = some (numF acc l) := by
  induction l with
  | nil => intro acc _; rw [numF_nil, Lib.decFrom]
  | cons c l ih =>
    intro acc h
    simp only [List.all_cons, Bool.and_eq_true, isDg, decide_eq_true_eq] at h
    rw [Lib.decFrom, Lib.digitVal, if_pos h.1, numF_cons]
    exact ih _ h.2
end Go.Proofs.YtjfpcgkgdajcfaaGreatDoor

/-
  fix.Parse, as it stands at this seat; no condition but the sizes named.
-/
open Go Go.Ev Go.Proofs
namespace Go.Proofs.YtjfpcgkgdajcfaaGreatDoor
set_option linter.unusedSimpArgs false
set_option linter.unusedVariables false
section
variable {k : Nat}
theorem F118_eq (a : Int) : F118 (k + 4) a = some (told a) := by
  rw [F118, F108_eq (k := k), Option.bind_some]
  unfold told
  cases isFix a <;> rfl
theorem F116_eq (l : List UInt8) (least : Nat) (h : l.length ≤ 20000) : F116 (k + 2) l (least : Int) = some (okL least l) := by
  rw [F116]
  unfold okL
  by_cases h1 : least ≤ l.length
  · rw [decide_eq_true (show (least : Int) ≤ (l.length : Int) by omega), cond_true, decide_eq_true h1]
    by_cases h2 : l.length ≤ 9
    · rw [decide_eq_true (show (l.length : Int) ≤ 9 by omega), cond_true, decide_eq_true h2]
      have hx : X136 (k + 1) l [48, 49, 50, 51, 52, 53, 54, 55, 56, 57] = some (Lib.trimS l [48, 49, 50, 51, 52, 53, 54, 55, 56, 57]) := by
        rw [X136]
        have : (decide (l.length ≤ 9223372036854775807 ∧ ([48, 49, 50, 51, 52, 53, 54, 55, 56, 57] : List UInt8).length < 4294967281) && ([48, 49, 50, 51, 52, 53, 54, 55, 56, 57] : List UInt8).all (fun x => decide (x.toNat < 128))) = true := by
          rw [Bool.and_eq_true]
          exact ⟨decide_eq_true ⟨by omega, by decide⟩, by decide⟩
        rw [this, cond_true]
      rw [hx, Option.bind_some]
      have ht := trim_digits l
      by_cases h3 : l.all isDg = true
      · rw [h3, ht.2 h3]; rfl
      · have h4 : ¬ Lib.trimS l [48, 49, 50, 51, 52, 53, 54, 55, 56, 57] = [] := fun e => h3 (ht.1 e)
        rw [beq_eq_false_iff_ne.2 h4]
        cases hh : l.all isDg
        · rfl
        · exact absurd hh h3
    · rw [decide_eq_false (show ¬ (l.length : Int) ≤ 9 by omega), cond_false, decide_eq_false h2]; simp
  · rw [decide_eq_false (show ¬ (least : Int) ≤ (l.length : Int) by omega), cond_false, decide_eq_false h1]; simp
end
end Go.Proofs.YtjfpcgkgdajcfaaGreatDoor

/-
  Prefixes, as they stand at this seat; no condition but the sizes named.
-/
open Go Go.Ev Go.Proofs
namespace Go.Proofs.YtjfpcgkgdajcfaaGreatDoor
set_option linter.unusedSimpArgs false
set_option linter.unusedVariables false
section
variable {k : Nat}
/-- Without a prefix that is there. -/
def trimP (a b : List UInt8) : List UInt8 := if a.take b.length = b then a.drop b.length else a
theorem F119_eq (a b : List UInt8) : F119 (k + 1) a b = some (decide (a.take b.length = b)) := by
  rw [F119]
  by_cases h : b.length ≤ a.length
  · rw [decide_eq_true (show (b.length : Int) ≤ (a.length : Int) by omega), cond_true, decide_eq_true (show 0 ≤ (0 : Int) ∧ (0 : Int) ≤ (b.length : Int) ∧ (b.length : Int) ≤ (a.length : Int) by omega), asrt_true]
    have : sub 0 b.length a = a.take b.length := by unfold sub; simp
    rw [this]
    congr 1
    rw [Bool.eq_iff_iff]; simp
  · rw [decide_eq_false (show ¬ (b.length : Int) ≤ (a.length : Int) by omega), cond_false, decide_eq_false]
    intro e
    have := congrArg List.length e
    rw [List.length_take] at this
    omega
theorem F67_eq (a b : List UInt8) : F67 (k + 3) a b = some (trimP a b) := by
  rw [F67, F95, F119_eq (k := k), Option.bind_some]
  unfold trimP
  by_cases h : a.take b.length = b
  · have hl : b.length ≤ a.length := by
      have := congrArg List.length h
      rw [List.length_take] at this; omega
    rw [decide_eq_true h, cond_true, if_pos h, decide_eq_true (show 0 ≤ (b.length : Int) ∧ (b.length : Int) ≤ (a.length : Int) ∧ (a.length : Int) ≤ (a.length : Int) by omega), asrt_true, Option.bind_some]
    have : sub b.length a.length a = a.drop b.length := by unfold sub; simp
    rw [this]
  · rw [decide_eq_false h, cond_false, if_neg h]; rfl
end
end Go.Proofs.YtjfpcgkgdajcfaaGreatDoor

/-
  The library's functions that reading uses, as they stand at this seat; no condition but the sizes named.
-/
open Go Go.Ev Go.Proofs
namespace Go.Proofs.YtjfpcgkgdajcfaaGreatDoor
set_option linter.unusedSimpArgs false
set_option linter.unusedVariables false
theorem X117_eq {k : Nat} (least : Nat) (l : List UInt8) (h : okL least l = true) : X117 (k + 1) (48 :: l) = some ((num l : Int), .val .nilIface) := by
  obtain ⟨_, _, h9, hd⟩ := num_lt least l h
  rw [X117, decide_eq_true (by simp; omega), cond_true, Lib.atoiAll_short _ (by simp; omega)]
  have e : Lib.atoi (48 :: l) = some (num l : Int) := by
    simp only [Lib.atoi, Lib.decNat, List.isEmpty_cons, Lib.decFrom, Lib.digitVal]
    rw [if_neg (by decide), if_neg (by decide), if_neg (by decide), if_pos (by decide)]
    simp only
    rw [decFrom_num l _ hd]
    rfl
  rw [e]
  rfl
theorem X93_dot {k : Nat} (l : List UInt8) (h : l.length ≤ 20000) : X93 (k + 1) l [46] = some (cutD l) := by
  rw [X93, decide_eq_true (by omega), cond_true, cut_dot]
theorem ten_nine (n : Nat) (h : n ≤ 9) : (1 : Int) ≤ 10 ^ n ∧ (10 : Int) ^ n ≤ 1000000000 := by
  have : ∀ j : Fin 10, (1 : Int) ≤ 10 ^ j.val ∧ (10 : Int) ^ j.val ≤ 1000000000 := by decide
  exact this ⟨n, by omega⟩
theorem rnd_bd (v : Nat) (p : Int) (hv : v < 1000000000) (this : 1 ≤ p ∧ p ≤ 1000000000) : 0 ≤ rnd v p ∧ rnd v p ≤ 65536000000001 := by
  unfold rnd
  constructor
  · exact Int.ediv_nonneg (by omega) (by omega)
  · have h1 : (2 * ((v : Int) * 65536) + p) / (2 * p) ≤ 2 * ((v : Int) * 65536) + p := Int.ediv_le_self _ (by omega)
    have h0 := Int.mul_ediv_self_le (x := 2 * ((v : Int) * 65536) + p) (k := 2 * p) (by omega)
    have hq : 0 ≤ (2 * ((v : Int) * 65536) + p) / (2 * p) := Int.ediv_nonneg (by omega) (by omega)
    generalize (2 * ((v : Int) * 65536) + p) / (2 * p) = q at *
    by_cases h7 : q = 0
    · omega
    · have h5 := Int.mul_le_mul_of_nonneg_right (show 1 ≤ p by omega) (show 0 ≤ 2 * q - 1 by omega)
      have h6 : p * (2 * q - 1) = 2 * p * q - p := by grind
      omega
end Go.Proofs.YtjfpcgkgdajcfaaGreatDoor

/-
  fix.Parse, as it stands at this seat: what it reads; no condition but the sizes named.
-/
open Go Go.Ev Go.Proofs
namespace Go.Proofs.YtjfpcgkgdajcfaaGreatDoor
set_option linter.unusedSimpArgs false
set_option linter.unusedVariables false
section
variable {k : Nat}
theorem trim_sign (l : List UInt8) : trimP l [45] = dropSign l ∧ (((dropSign l).length < l.length ∧ parseS l = parse1 true (dropSign l)) ∨ ((dropSign l).length = l.length ∧ parseS l = parse1 false (dropSign l))) := by
  cases l with
  | nil => exact ⟨rfl, Or.inr ⟨rfl, rfl⟩⟩
  | cons c r =>
    by_cases h : c = 45
    · subst h
      exact ⟨by unfold trimP dropSign; simp, Or.inl ⟨by unfold dropSign; simp, by unfold parseS dropSign; rfl⟩⟩
    · have e : dropSign (c :: r) = c :: r := by unfold dropSign; split <;> simp_all
      have e2 : parseS (c :: r) = parse1 false (c :: r) := by unfold parseS; split <;> simp_all
      refine ⟨?_, Or.inr ⟨by rw [e], by rw [e, e2]⟩⟩
      rw [e]; unfold trimP; rw [if_neg]; simp [h]
theorem read_part {least : Nat} (w part : List UInt8) (hw : okL least w = true) (hp : okL 0 part = true) :
    F110 (k + 12) ((part.length : Nat) : Int) = some (10 ^ part.length) ∧ F56 (k + 2) (w64 ((num part : Int) * 65536)) (10 ^ part.length) = some (rnd (num part) (10 ^ part.length)) := by
  obtain ⟨h1, h2, h3, h4⟩ := num_lt 0 part hp
  have := ten_nine part.length h3
  exact ⟨F110_eq part.length h3, F56_r _ _ (by omega) (by omega) (by omega) (by omega)⟩
end
end Go.Proofs.YtjfpcgkgdajcfaaGreatDoor

/-
  fix.Parse, as it stands at this seat: the whole; no condition but the sizes named.
-/
open Go Go.Ev Go.Proofs
namespace Go.Proofs.YtjfpcgkgdajcfaaGreatDoor
set_option linter.unusedSimpArgs false
set_option linter.unusedVariables false
section
variable {k : Nat}
theorem F94_eq (l : List UInt8) (hl : l.length ≤ 10000) : F94 (k + 20) l = some (parseS l) := by
  obtain ⟨e1, hs⟩ := trim_sign l
  have hr : (dropSign l).length ≤ l.length := by rcases hs with h | h <;> omega
  rw [F94, F67_eq (k := k + 16), Option.bind_some, e1, X93_dot (k := k + 18) _ (by omega), Option.bind_some]
  have hps : parseS l = parse1 (decide (((dropSign l).length : Int) < (l.length : Int))) (dropSign l) := by
    rcases hs with h | h
    · rw [decide_eq_true (by omega)]; exact h.2
    · rw [decide_eq_false (by omega)]; exact h.2
  rw [hps]
  generalize decide (((dropSign l).length : Int) < (l.length : Int)) = neg
  have hw : (cutD (dropSign l)).1.length ≤ 10000 := by
    have : ((dropSign l).takeWhile (· != 46)).length ≤ (dropSign l).length := (List.takeWhile_sublist _).length_le
    show ((dropSign l).takeWhile (· != 46)).length ≤ 10000
    omega
  have hp : (cutD (dropSign l)).2.1.length ≤ 10000 := by
    have : ((dropSign l).dropWhile (· != 46)).length ≤ (dropSign l).length := (List.dropWhile_sublist _).length_le
    show ((dropSign l).dropWhile (· != 46)).tail.length ≤ 10000
    rw [List.length_tail]; omega
  have hemp : (cutD (dropSign l)).2.2 = false → (cutD (dropSign l)).2.1 = [] := by
    intro h
    have : (dropSign l).dropWhile (· != 46) = [] := by
      have h2 : ((dropSign l).dropWhile (· != 46) != []) = false := h
      simpa using h2
    show ((dropSign l).dropWhile (· != 46)).tail = []
    rw [this]; rfl
  unfold parse1
  generalize (cutD (dropSign l)).1 = w at *
  generalize (cutD (dropSign l)).2.1 = part at *
  generalize (cutD (dropSign l)).2.2 = pt at *
  have yes : ∀ a b, okL a w = true → okL b part = true →
      (Option.bind (X117 (k + 19) (([48] : List UInt8) ++ w)) fun r14 => asrt (decide (1 + part.length < 2 ^ 62)) (Option.bind (X117 (k + 19) (([48] : List UInt8) ++ part)) fun r17 => (Option.bind (F110 (k + 19) ((part.length : Nat) : Int)) fun r19 => (Option.bind (F56 (k + 19) (w64 (r17.1 * (65536 : Int))) r19) fun r21 => (bif neg then (Option.bind (F118 (k + 19) (w64 (0 - (w64 ((w64 (r14.1 * (65536 : Int))) + r21))))) fun r24 => (some (r24.1, r24.2))) else (Option.bind (F118 (k + 19) (w64 ((w64 (r14.1 * (65536 : Int))) + r21))) fun r26 => (some (r26.1, r26.2)))))))) = some (readS neg w part) := by
    intro a b ha hb
    obtain ⟨h1, h2, h3, h4⟩ := num_lt a w ha
    obtain ⟨g1, g2, g3, g4⟩ := num_lt b part hb
    have ht := ten_nine part.length g3
    have hq := rnd_bd (num part) _ g2 ht
    have x1 := X117_eq (k := k + 18) a w ha
    have x2 := X117_eq (k := k + 18) b part hb
    have p1 := F110_eq (k := k + 7) part.length g3
    have p2 := F56_r (k := k + 17) (num part : Int) (10 ^ part.length) (by omega) (by omega) (by omega) (by omega)
    have q1 : w64 ((num w : Int) * 65536) = (num w : Int) * 65536 := w64_id (by omega) (by omega)
    have q2 : w64 ((num w : Int) * 65536 + rnd (num part) (10 ^ part.length)) = (num w : Int) * 65536 + rnd (num part) (10 ^ part.length) := w64_id (by omega) (by omega)
    have q3 : w64 (0 - ((num w : Int) * 65536 + rnd (num part) (10 ^ part.length))) = -((num w : Int) * 65536 + rnd (num part) (10 ^ part.length)) := by rw [w64_id (by omega) (by omega)]; omega
    show (Option.bind (X117 (k + 18 + 1) (48 :: w)) _) = _
    rw [x1, Option.bind_some, sz (by omega) (by omega), asrt_true]
    show (Option.bind (X117 (k + 18 + 1) (48 :: part)) _) = _
    rw [x2, Option.bind_some]
    show (Option.bind (F110 (k + 7 + 12) _) _) = _
    rw [p1, Option.bind_some]
    show (Option.bind (F56 (k + 17 + 2) _ _) _) = _
    rw [p2, Option.bind_some]
    unfold readS
    cases neg with
    | true => simp only [q1, q2, q3, cond_true, F118_eq (k := k + 15), Option.bind_some, if_true]
    | false => simp only [q1, q2, cond_false, F118_eq (k := k + 15), Option.bind_some]; rfl
  have f0 := F116_eq (k := k + 17) w 0 (by omega)
  have f1 := F116_eq (k := k + 17) part 1 (by omega)
  have f2 := F116_eq (k := k + 17) w 1 (by omega)
  rw [show k + 17 + 2 = k + 19 from rfl] at f0 f1 f2
  rw [show ((0 : Nat) : Int) = 0 from rfl] at f0
  rw [show ((1 : Nat) : Int) = 1 from rfl] at f1 f2
  have len9 : ∀ a (x : List UInt8), okL a x = true → x.length ≤ 9 := fun a x h => (num_lt a x h).2.2.1
  cases pt with
  | true =>
    rw [cond_true, f0, Option.bind_some, if_pos rfl]
    cases h1 : okL 0 w with
    | false => simp
    | true =>
      rw [cond_true, f1, Option.bind_some]
      cases h2 : okL 1 part with
      | false => simp
      | true =>
        have := len9 0 w h1
        rw [cond_true, sz (by omega) (by omega), asrt_true, yes 0 1 h1 h2]; simp
  | false =>
    rw [cond_false, f2, Option.bind_some]
    simp only [Bool.false_eq_true, if_false]
    cases h1 : okL 1 w with
    | false => simp
    | true =>
      have := len9 1 w h1
      rw [cond_true, sz (by omega) (by omega), asrt_true, yes 1 0 h1 (by rw [hemp rfl]; rfl)]; simp
end
end Go.Proofs.YtjfpcgkgdajcfaaGreatDoor

/-
  The reference's whole numbers, as they stand at this seat; no condition but the sizes named.
-/
open Go Go.Ev Go.Proofs
namespace Go.Proofs.YtjfpcgkgdajcfaaGreatDoor
set_option linter.unusedSimpArgs false
set_option linter.unusedVariables false
section
variable {k : Nat}
theorem drop_cons {l r : List UInt8} {i : Nat} {c : UInt8} (h : l.drop i = c :: r) : l.getD i 0 = c ∧ i < l.length ∧ l.drop (i + 1) = r := by
  have hi : i < l.length := by
    apply Classical.byContradiction
    intro hc
    rw [List.drop_of_length_le (by omega)] at h
    cases h
  rw [List.drop_eq_getElem_cons hi] at h
  injection h with h1 h2
  refine ⟨?_, hi, h2⟩
  rw [List.getD_eq_getElem?_getD, List.getElem?_eq_getElem hi]; exact h1
theorem u8_dg {c : UInt8} (h : isDg c = true) : w64 (IntKind.u8.wrap (((c.toNat : Nat) : Int) - 48)) = ((c.toNat - 48 : Nat) : Int) ∧ c.toNat - 48 ≤ 9 := by
  unfold isDg at h
  rw [Bool.and_eq_true, decide_eq_true_eq, decide_eq_true_eq] at h
  have : IntKind.u8.wrap (((c.toNat : Nat) : Int) - 48) = ((c.toNat - 48 : Nat) : Int) := by
    unfold IntKind.wrap
    simp [IntKind.bits, IntKind.signed]
    omega
  rw [this]
  exact ⟨w64_id (by omega) (by omega), by omega⟩
theorem ten_step (acc P : Nat) (c : UInt8) (hc : c.toNat - 48 ≤ 9) (h : (acc + 1) * (P * 10) ≤ 10000000000) (hP : 1 ≤ P) : (dgStep acc c + 1) * P ≤ 10000000000 ∧ acc ≤ 1000000000 := by
  have h1 : (dgStep acc c + 1) * P ≤ ((acc + 1) * 10) * P := Nat.mul_le_mul_right P (by unfold dgStep; omega)
  have h2 : ((acc + 1) * 10) * P = (acc + 1) * (P * 10) := by rw [Nat.mul_assoc, Nat.mul_comm 10 P]
  have h3 : (acc + 1) * 10 ≤ (acc + 1) * (P * 10) := Nat.mul_le_mul_left _ (by omega)
  omega
theorem F120_L1_eq (l : List UInt8) (hl : l.length ≤ 10000) : ∀ (r : List UInt8) (m i acc : Nat), r.length < m → l.drop i = r → (acc + 1) * 10 ^ r.length ≤ 10000000000 →
    F120_L1 k l m (acc : Int) (i : Int) = if r.all isDg = true then some (.inr ((numF acc r : Nat) : Int)) else some (.inl ()) := by
  intro r
  induction r with
  | nil =>
    intro m i acc hm hd _
    obtain ⟨m, rfl⟩ : ∃ j, m = j + 1 := ⟨m - 1, by omega⟩
    have hi : l.length ≤ i := List.drop_eq_nil_iff.1 hd
    rw [F120_L1, decide_eq_false (show ¬ (i : Int) < (l.length : Int) by omega), cond_false]
    simp [numF]
  | cons c r ih =>
    intro m i acc hm hd hb
    obtain ⟨m, rfl⟩ : ∃ j, m = j + 1 := ⟨m - 1, by omega⟩
    obtain ⟨h1, h2, h3⟩ := drop_cons hd
    have e1 : w64 ((i : Int) + 1) = ((i + 1 : Nat) : Int) := by rw [w64_id (by omega) (by omega)]; omega
    rw [F120_L1, decide_eq_true (show (i : Int) < (l.length : Int) by omega), cond_true, decide_eq_true (show 0 ≤ (i : Int) ∧ (i : Int) < (l.length : Int) by omega), asrt_true, Int.toNat_natCast, h1, List.all_cons]
    by_cases c1 : c.toNat < 48
    · rw [decide_eq_true (show ((c.toNat : Nat) : Int) < 48 by omega), cond_true]
      have : isDg c = false := by unfold isDg; rw [decide_eq_false (by omega), Bool.false_and]
      rw [this]; simp
    · rw [decide_eq_false (show ¬ ((c.toNat : Nat) : Int) < 48 by omega), cond_false]
      by_cases c2 : 57 < c.toNat
      · rw [decide_eq_true (show (57 : Int) < ((c.toNat : Nat) : Int) by omega), cond_true]
        have : isDg c = false := by unfold isDg; rw [decide_eq_false (show ¬ c.toNat ≤ 57 by omega), Bool.and_false]
        rw [this]; simp
      · rw [decide_eq_false (show ¬ (57 : Int) < ((c.toNat : Nat) : Int) by omega), cond_false]
        have hc : isDg c = true := by unfold isDg; rw [decide_eq_true (by omega), decide_eq_true (by omega)]; rfl
        obtain ⟨d1, d2⟩ := u8_dg hc
        rw [List.length_cons, Nat.pow_succ] at hb
        obtain ⟨b1, b2⟩ := ten_step acc (10 ^ r.length) c d2 hb (Nat.pow_pos (by omega))
        have e2 : w64 (w64 (10 * (acc : Int)) + w64 (IntKind.u8.wrap (((c.toNat : Nat) : Int) - 48))) = ((dgStep acc c : Nat) : Int) := by
          rw [d1, w64_id (x := 10 * (acc : Int)) (by omega) (by omega), w64_id (by omega) (by omega)]
          unfold dgStep; omega
        rw [e1, e2, ih m (i + 1) (dgStep acc c) (by simp at hm; omega) h3 b1, hc, Bool.true_and, numF_cons]
theorem F120_eq (l : List UInt8) (hl : l.length ≤ 10000) : F120 (k + 12) l = some (if okL 1 l = true then (num l : Int) else -1) := by
  rw [F120]
  unfold okL
  by_cases h1 : l.length < 1
  · rw [decide_eq_true (show (l.length : Int) < 1 by omega), cond_true, decide_eq_false (show ¬ 1 ≤ l.length by omega)]; rfl
  · rw [decide_eq_false (show ¬ (l.length : Int) < 1 by omega), cond_false, decide_eq_true (show 1 ≤ l.length by omega)]
    by_cases h2 : 9 < l.length
    · rw [decide_eq_true (show (9 : Int) < (l.length : Int) by omega), cond_true, decide_eq_false (show ¬ l.length ≤ 9 by omega)]; rfl
    · rw [decide_eq_false (show ¬ (9 : Int) < (l.length : Int) by omega), cond_false, decide_eq_true (show l.length ≤ 9 by omega)]
      have := F120_L1_eq (k := k + 11) l hl l (k + 11) 0 0 (by omega) rfl (by
        have : 10 ^ l.length ≤ 10 ^ 9 := Nat.pow_le_pow_right (by omega) (by omega)
        have e : 10 ^ 9 = 1000000000 := by decide
        omega)
      rw [show ((0 : Nat) : Int) = 0 from rfl] at this
      rw [this]
      unfold num
      cases l.all isDg <;> rfl
end
end Go.Proofs.YtjfpcgkgdajcfaaGreatDoor
