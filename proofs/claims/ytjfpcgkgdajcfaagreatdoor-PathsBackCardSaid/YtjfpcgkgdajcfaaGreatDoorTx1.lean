/-
  Several texts in one: each with its own heading.
-/
import Derived.Lib.AtoiTie
import Derived.Test.YtjfpcgkgdajcfaaGreatDoorCfgP
import Derived.Test.YtjfpcgkgdajcfaaGreatDoorEvPd
import Derived.Test.YtjfpcgkgdajcfaaGreatDoorQ4
import Derived.Test.YtjfpcgkgdajcfaaGreatDoorR1
import Derived.Test.YtjfpcgkgdajcfaaGreatDoorPurePU
/-
  The numerals of the package fix: which digits Text writes behind the point: plain lemmas on integers and lists of bytes.
-/
namespace Go.Proofs.YtjfpcgkgdajcfaaGreatDoor
open Go Go.Proofs

/-! ### The digits behind the point -/
/-- What v of so many digits (p: their power) is, as a fixed number's part. -/
def rnd (v p : Int) : Int := (2 * (v * 65536) + p) / (2 * p)
/-- The number of so many digits that is nearest to the part f, of two the lesser one. -/
def nst (f p : Int) : Int := (2 * (f * p) + 65535) / 131072
def good (f p : Int) : Bool := decide (nst f p < p) && decide (rnd (nst f p) p = f)
theorem rnd_iff (v p f : Int) (hp : 0 < p) : rnd v p = f ↔ (-p ≤ 2 * (v * 65536 - f * p) ∧ 2 * (v * 65536 - f * p) < p) := by
  unfold rnd
  have h0 := Int.mul_ediv_add_emod (2 * (v * 65536) + p) (2 * p)
  have h1 := Int.emod_nonneg (2 * (v * 65536) + p) (show 2 * p ≠ 0 by omega)
  have h2 := Int.emod_lt_of_pos (2 * (v * 65536) + p) (show 0 < 2 * p by omega)
  generalize (2 * (v * 65536) + p) / (2 * p) = q at *
  generalize (2 * (v * 65536) + p) % (2 * p) = m at *
  have e : 2 * p * q = 2 * (q * p) := by rw [Int.mul_assoc, Int.mul_comm p q]
  constructor
  · intro h; subst h; omega
  · intro ⟨a, b⟩
    rcases Int.lt_trichotomy q f with h | h | h
    · exfalso
      have := Int.mul_le_mul_of_nonneg_right (show q + 1 ≤ f by omega) (show 0 ≤ p by omega)
      rw [Int.add_mul] at this; omega
    · exact h
    · exfalso
      have := Int.mul_le_mul_of_nonneg_right (show f + 1 ≤ q by omega) (show 0 ≤ p by omega)
      rw [Int.add_mul] at this; omega
theorem good_iff (f p : Int) : good f p = true ↔ nst f p < p ∧ rnd (nst f p) p = f := by simp [good]
theorem good_five (f : Int) (hf0 : 0 ≤ f) (hf : f ≤ 65535) : good f 100000 = true := by
  rw [good_iff _ _, rnd_iff _ _ _ (by omega)]
  unfold nst
  omega
theorem nst_nonneg (f p : Int) (hp : 0 < p) (hf0 : 0 ≤ f) : 0 ≤ nst f p := by
  have : 0 ≤ f * p := Int.mul_nonneg hf0 (by omega)
  unfold nst; omega
/-- The search's two steps. -/
def pick1 (f p : Int) : Int := if rnd (f * p / 65536) p = f then f * p / 65536 else -1
def pick2 (f p : Int) : Int :=
  if f * p / 65536 + 1 < p ∧ rnd (f * p / 65536 + 1) p = f ∧ (pick1 f p < 0 ∨ (f * p / 65536 + 1) * 65536 - f * p < f * p - pick1 f p * 65536) then f * p / 65536 + 1 else pick1 f p
theorem low_lt (f p : Int) (hp : 0 < p) (hf0 : 0 ≤ f) (hf : f ≤ 65535) : 0 ≤ f * p / 65536 ∧ f * p / 65536 < p := by
  have h1 : f * p ≤ 65535 * p := Int.mul_le_mul_of_nonneg_right hf (by omega)
  have h0 : 0 ≤ f * p := Int.mul_nonneg hf0 (by omega)
  omega
theorem pick_is (f p : Int) (hp : 0 < p) (hf0 : 0 ≤ f) (hf : f ≤ 65535) : pick2 f p = if good f p = true then nst f p else -1 := by
  obtain ⟨l0, l1⟩ := low_lt f p hp hf0 hf
  have hd : -65536 ≤ 2 * (nst f p * 65536 - f * p) ∧ 2 * (nst f p * 65536 - f * p) < 65536 := by unfold nst; omega
  have hl : 0 ≤ f * p - f * p / 65536 * 65536 ∧ f * p - f * p / 65536 * 65536 < 65536 := by omega
  have hg := good_iff f p
  have r0 := rnd_iff (f * p / 65536) p f hp
  have r1 := rnd_iff (f * p / 65536 + 1) p f hp
  have r2 := rnd_iff (nst f p) p f hp
  have hb : good f p = true ∨ good f p = false := by cases good f p <;> simp
  have hfp : f * p ≤ 65535 * p := Int.mul_le_mul_of_nonneg_right hf (by omega)
  unfold pick2 pick1
  generalize f * p / 65536 = l at *
  generalize f * p = g at *
  generalize nst f p = d at *
  have dl : d = l ∨ d = l + 1 := by omega
  rcases hb with hb | hb
  · rw [if_pos hb]
    obtain ⟨g1, g2⟩ := hg.1 hb
    have g3 := r2.1 g2
    rcases dl with rfl | rfl
    · rw [if_pos g2]
      rw [if_neg (by intro ⟨_, _, c⟩; omega)]
    · by_cases c : rnd l p = f
      · have c2 := r0.1 c
        rw [if_pos c, if_pos ⟨g1, g2, .inr (by omega)⟩]
      · rw [if_neg c, if_pos ⟨g1, g2, .inl (by omega)⟩]
  · rw [show (if good f p = true then d else -1) = -1 from if_neg (by rw [hb]; decide)]
    have hn : ¬ (d < p ∧ rnd d p = f) := fun h => by rw [hg.2 h] at hb; cases hb
    have n0 : ¬ rnd l p = f := by
      intro h
      rcases dl with rfl | rfl
      · exact hn ⟨l1, h⟩
      · have h1 := r0.1 h
        exact hn ⟨by omega, r2.2 (by omega)⟩
    rw [if_neg n0, if_neg (fun h => ?_)]
    obtain ⟨a, b, _⟩ := h
    rcases dl with rfl | rfl
    · have h1 := r1.1 b
      exact hn ⟨l1, r2.2 (by omega)⟩
    · exact hn ⟨a, b⟩

/-! ### Digits -/
theorem decDigits_ten (n : Nat) (h : 10 ≤ n) : Lib.decDigits n = Lib.decDigits (n / 10) ++ [UInt8.ofNat (48 + n % 10)] := by
  rw [Lib.decDigits]; rw [dif_neg (by omega)]
theorem decDigits_one (n : Nat) (h : n < 10) : Lib.decDigits n = [UInt8.ofNat (48 + n)] := by
  rw [Lib.decDigits]; rw [dif_pos h]
theorem decDigits_pos (n : Nat) : 1 ≤ (Lib.decDigits n).length := by
  by_cases h : n < 10
  · rw [decDigits_one n h]; simp
  · rw [decDigits_ten n (by omega)]; simp
theorem decDigits_len (m : Nat) : ∀ n, n < 10 ^ m → 1 ≤ m → (Lib.decDigits n).length ≤ m := by
  induction m with
  | zero => intro n _ h; omega
  | succ m ih =>
    intro n h _
    by_cases h1 : n < 10
    · rw [decDigits_one n h1]; simp
    · rw [decDigits_ten n (by omega)]
      have hm : 1 ≤ m := by
        apply Classical.byContradiction
        intro hc
        have : m = 0 := by omega
        subst this
        simp at h; omega
      have := ih (n / 10) (by rw [Nat.pow_succ] at h; omega) hm
      simp; omega
/-- d in so many digits (zeros ahead). -/
def padded (d : Nat) (n : Nat) : List UInt8 := List.replicate (n - (Lib.decDigits d).length) 48 ++ Lib.decDigits d
theorem repeat_zero (c : Nat) : Lib.repeatL [48] c = List.replicate c 48 := by
  have := Lib.repeatL_replicate 48 1 c
  simpa using this
end Go.Proofs.YtjfpcgkgdajcfaaGreatDoor

/-
  fix.Text, as it stands at this seat: what it writes; no condition but the sizes named.
-/
open Go Go.Ev Go.Proofs
namespace Go.Proofs.YtjfpcgkgdajcfaaGreatDoor
set_option linter.unusedSimpArgs false
set_option linter.unusedVariables false
section
variable {k : Nat}
theorem F110_L1_eq (n : Nat) : ∀ (d m i : Nat) (p : Int), i + d = n → d < m → n ≤ 9 → p = 10 ^ i → F110_L1 k (n : Int) m p (i : Int) = some (10 ^ n) := by
  intro d
  induction d with
  | zero =>
    intro m i p hi hm hn hp
    cases m with
    | zero => omega
    | succ m =>
      have h1 : decide ((i : Int) < (n : Int)) = false := decide_eq_false (by omega)
      rw [F110_L1, h1, cond_false, hp, show i = n by omega]
  | succ d ih =>
    intro m i p hi hm hn hp
    cases m with
    | zero => omega
    | succ m =>
      have h1 : decide ((i : Int) < (n : Int)) = true := decide_eq_true (by omega)
      have hb : ∀ j : Fin 10, (1 : Int) ≤ 10 ^ j.val ∧ (10 : Int) ^ j.val ≤ 1000000000 := by decide
      have := hb ⟨i, by omega⟩
      simp only at this
      rw [F110_L1, h1, cond_true, w64_id (x := p * 10) (by omega) (by omega), w64_id (x := (i : Int) + 1) (by omega) (by omega)]
      exact ih m (i + 1) (p * 10) (by omega) (by omega) hn (by rw [hp, Int.pow_succ])
theorem F110_eq (n : Nat) (hn : n ≤ 9) : F110 (k + 12) (n : Int) = some (10 ^ n) := by
  have := F110_L1_eq (k := k + 11) n n (k + 11) 0 1 (by omega) (by omega) hn rfl
  rw [show ((0 : Nat) : Int) = 0 from rfl] at this
  rw [F110, this]; rfl
theorem F56_r (v p : Int) (hv0 : 0 ≤ v) (hv : v ≤ 1000000000) (hp : 0 < p) (hp1 : p ≤ 1000000000) : F56 (k + 2) (w64 (v * 65536)) p = some (rnd v p) := by
  have e1 : w64 (v * 65536) = v * 65536 := w64_id (by omega) (by omega)
  have e2 : w64 (2 * (v * 65536)) = 2 * (v * 65536) := w64_id (by omega) (by omega)
  have e3 : w64 (2 * (v * 65536) + p) = 2 * (v * 65536) + p := w64_id (by omega) (by omega)
  have e4 : w64 (2 * p) = 2 * p := w64_id (by omega) (by omega)
  have h0 : 0 ≤ 2 * (v * 65536) + p := by omega
  have hd0 : 0 ≤ (2 * (v * 65536) + p) / (2 * p) := Int.ediv_nonneg h0 (by omega)
  have hd1 : (2 * (v * 65536) + p) / (2 * p) ≤ 2 * (v * 65536) + p := Int.ediv_le_self _ h0
  have tn : decide ((2 * (v * 65536) + p).tmod (2 * p) < 0) = false := decide_eq_false (by
    rw [Int.tmod_eq_emod_of_nonneg h0]
    have := Int.emod_nonneg (2 * (v * 65536) + p) (show 2 * p ≠ 0 by omega)
    omega)
  have z : decide (2 * p = 0) = false := decide_eq_false (by omega)
  have td : w64 ((2 * (v * 65536) + p).tdiv (2 * p)) = rnd v p := by
    rw [Int.tdiv_eq_ediv_of_nonneg h0]
    exact w64_id (by omega) (by omega)
  unfold F56 F88
  simp only [e1, e2, e3, e4, z, tn, cond_false, Option.bind_some, td]
theorem F90_L6_eq {a f p : Int} (hf : a.tmod 65536 = f) (hf0 : 0 ≤ f) (hf1 : f ≤ 65535) (hp : 0 < p) (hp1 : p ≤ 100000) (m : Nat) :
    F90_L6 (k + 2) a p (m + 3) (-1) (w64 ((w64 (a.tmod 65536 * p)).tdiv 65536)) = some (pick2 f p) := by
  obtain ⟨l0, l1⟩ := low_lt f p hp hf0 hf1
  have hfp1 : f * p ≤ 65535 * 100000 := Int.mul_le_mul hf1 hp1 (by omega) (by omega)
  have hfp0 : 0 ≤ f * p := Int.mul_nonneg hf0 (by omega)
  have ew : w64 (a.tmod 65536 * p) = f * p := by rw [hf]; exact w64_id (by omega) (by omega)
  obtain ⟨L, hL⟩ : ∃ L, L = f * p / 65536 := ⟨_, rfl⟩
  have el : w64 ((w64 (a.tmod 65536 * p)).tdiv 65536) = L := by
    rw [ew, Int.tdiv_eq_ediv_of_nonneg hfp0, hL]; exact w64_id (by omega) (by omega)
  have elt : w64 (w64 ((w64 (a.tmod 65536 * p)).tdiv 65536) + 1) = L + 1 := by rw [el]; exact w64_id (by omega) (by omega)
  have hLb : 0 ≤ L ∧ L < p ∧ L ≤ 100000 := by omega
  have e1 : w64 (L + 1) = L + 1 := w64_id (by omega) (by omega)
  have e2 : w64 (L + 1 + 1) = L + 2 := by rw [w64_id (by omega) (by omega)]; omega
  have hp1b : -1 ≤ pick1 f p ∧ pick1 f p ≤ L := by unfold pick1; split <;> omega
  have step1 : ∀ m, F90_L6 (k + 2) a p (m + 1) (-1) L = F90_L6 (k + 2) a p m (pick1 f p) (L + 1) := by
    intro m
    have d1 : decide (L ≤ w64 (w64 ((w64 (a.tmod 65536 * p)).tdiv 65536) + 1)) = true := by rw [elt]; exact decide_eq_true (by omega)
    have d2 : decide (L < p) = true := decide_eq_true (by omega)
    have d3 : decide ((-1 : Int) < 0) = true := rfl
    rw [F90_L6]
    simp only [d1, cond_true, d2, F56_r L p (by omega) (by omega) hp (by omega), Option.bind_some, d3, e1]
    unfold pick1
    rw [← hL]
    by_cases c : rnd L p = f
    · rw [if_pos c, c, hf, beq_self_eq_true, cond_true]
    · rw [if_neg c, beq_eq_false_iff_ne.2 (by rw [hf]; exact c), cond_false]
  rw [el, step1 (m + 2)]
  have d1 : decide (L + 1 ≤ w64 (w64 ((w64 (a.tmod 65536 * p)).tdiv 65536) + 1)) = true := by rw [elt]; exact decide_eq_true (by omega)
  have d1' : decide (L + 2 ≤ w64 (w64 ((w64 (a.tmod 65536 * p)).tdiv 65536) + 1)) = false := by rw [elt]; exact decide_eq_false (by omega)
  have last : ∀ m x, F90_L6 (k + 2) a p (m + 1) x (L + 2) = some x := by
    intro m x
    rw [F90_L6, d1', cond_false]
  by_cases c : L + 1 < p
  · have d2 : decide (L + 1 < p) = true := decide_eq_true c
    have u1 : w64 (w64 ((L + 1) * 65536) - w64 (f * p)) = (L + 1) * 65536 - f * p := by
      rw [w64_id (x := f * p) (by omega) (by omega), w64_id (x := (L + 1) * 65536) (by omega) (by omega)]; exact w64_id (by omega) (by omega)
    have u2 : w64 (w64 (f * p) - w64 (pick1 f p * 65536)) = f * p - pick1 f p * 65536 := by
      rw [w64_id (x := f * p) (by omega) (by omega), w64_id (x := pick1 f p * 65536) (by omega) (by omega)]; exact w64_id (by omega) (by omega)
    rw [F90_L6, d1, cond_true, d2, cond_true, F56_r (L + 1) p (by omega) (by omega) hp (by omega), Option.bind_some, e2]
    have goal2 : pick2 f p = if rnd (L + 1) p = f ∧ (pick1 f p < 0 ∨ (L + 1) * 65536 - f * p < f * p - pick1 f p * 65536) then L + 1 else pick1 f p := by
      unfold pick2
      rw [← hL]
      by_cases h : rnd (L + 1) p = f ∧ (pick1 f p < 0 ∨ (L + 1) * 65536 - f * p < f * p - pick1 f p * 65536)
      · rw [if_pos h, if_pos ⟨c, h⟩]
      · rw [if_neg h, if_neg (fun h2 => h h2.2)]
    rw [goal2]
    by_cases c1 : rnd (L + 1) p = f
    · rw [c1, hf, beq_self_eq_true, cond_true]
      by_cases c2 : pick1 f p < 0
      · rw [decide_eq_true c2, cond_true, last, if_pos ⟨rfl, Or.inl c2⟩]
      · rw [decide_eq_false c2, cond_false]
        by_cases c3 : (L + 1) * 65536 - f * p < f * p - pick1 f p * 65536
        · have d4 : decide (w64 (w64 ((L + 1) * 65536) - w64 (f * p)) < w64 (w64 (f * p) - w64 (pick1 f p * 65536))) = true := by
            rw [u1, u2]; exact decide_eq_true c3
          rw [d4, cond_true, last, if_pos ⟨rfl, Or.inr c3⟩]
        · have d4 : decide (w64 (w64 ((L + 1) * 65536) - w64 (f * p)) < w64 (w64 (f * p) - w64 (pick1 f p * 65536))) = false := by
            rw [u1, u2]; exact decide_eq_false c3
          rw [d4, cond_false, last, if_neg (by rintro ⟨_, h | h⟩ <;> contradiction)]
    · rw [beq_eq_false_iff_ne.2 (by rw [hf]; exact c1), cond_false, last, if_neg (fun h => c1 h.1)]
  · have d2 : decide (L + 1 < p) = false := decide_eq_false c
    rw [F90_L6, d1, cond_true, d2, cond_false]
    unfold pick2
    rw [← hL, if_neg (fun h => c h.1)]
theorem F90_L3_eq {a f p : Int} (hf : (w64 (0 - a)).tmod 65536 = f) (hf0 : 0 ≤ f) (hf1 : f ≤ 65535) (hp : 0 < p) (hp1 : p ≤ 100000) (m : Nat) :
    F90_L3 (k + 2) a p (m + 3) (-1) (w64 ((w64 ((w64 (0 - a)).tmod 65536 * p)).tdiv 65536)) = some (pick2 f p) := by
  obtain ⟨l0, l1⟩ := low_lt f p hp hf0 hf1
  have hfp1 : f * p ≤ 65535 * 100000 := Int.mul_le_mul hf1 hp1 (by omega) (by omega)
  have hfp0 : 0 ≤ f * p := Int.mul_nonneg hf0 (by omega)
  have ew : w64 ((w64 (0 - a)).tmod 65536 * p) = f * p := by rw [hf]; exact w64_id (by omega) (by omega)
  obtain ⟨L, hL⟩ : ∃ L, L = f * p / 65536 := ⟨_, rfl⟩
  have el : w64 ((w64 ((w64 (0 - a)).tmod 65536 * p)).tdiv 65536) = L := by
    rw [ew, Int.tdiv_eq_ediv_of_nonneg hfp0, hL]; exact w64_id (by omega) (by omega)
  have elt : w64 (w64 ((w64 ((w64 (0 - a)).tmod 65536 * p)).tdiv 65536) + 1) = L + 1 := by rw [el]; exact w64_id (by omega) (by omega)
  have hLb : 0 ≤ L ∧ L < p ∧ L ≤ 100000 := by omega
  have e1 : w64 (L + 1) = L + 1 := w64_id (by omega) (by omega)
  have e2 : w64 (L + 1 + 1) = L + 2 := by rw [w64_id (by omega) (by omega)]; omega
  have hp1b : -1 ≤ pick1 f p ∧ pick1 f p ≤ L := by unfold pick1; split <;> omega
  have step1 : ∀ m, F90_L3 (k + 2) a p (m + 1) (-1) L = F90_L3 (k + 2) a p m (pick1 f p) (L + 1) := by
    intro m
    have d1 : decide (L ≤ w64 (w64 ((w64 ((w64 (0 - a)).tmod 65536 * p)).tdiv 65536) + 1)) = true := by rw [elt]; exact decide_eq_true (by omega)
    have d2 : decide (L < p) = true := decide_eq_true (by omega)
    have d3 : decide ((-1 : Int) < 0) = true := rfl
    rw [F90_L3]
    simp only [d1, cond_true, d2, F56_r L p (by omega) (by omega) hp (by omega), Option.bind_some, d3, e1]
    unfold pick1
    rw [← hL]
    by_cases c : rnd L p = f
    · rw [if_pos c, c, hf, beq_self_eq_true, cond_true]
    · rw [if_neg c, beq_eq_false_iff_ne.2 (by rw [hf]; exact c), cond_false]
  rw [el, step1 (m + 2)]
  have d1 : decide (L + 1 ≤ w64 (w64 ((w64 ((w64 (0 - a)).tmod 65536 * p)).tdiv 65536) + 1)) = true := by rw [elt]; exact decide_eq_true (by omega)
  have d1' : decide (L + 2 ≤ w64 (w64 ((w64 ((w64 (0 - a)).tmod 65536 * p)).tdiv 65536) + 1)) = false := by rw [elt]; exact decide_eq_false (by omega)
  have last : ∀ m x, F90_L3 (k + 2) a p (m + 1) x (L + 2) = some x := by
    intro m x
    rw [F90_L3, d1', cond_false]
  by_cases c : L + 1 < p
  · have d2 : decide (L + 1 < p) = true := decide_eq_true c
    have u1 : w64 (w64 ((L + 1) * 65536) - w64 (f * p)) = (L + 1) * 65536 - f * p := by
      rw [w64_id (x := f * p) (by omega) (by omega), w64_id (x := (L + 1) * 65536) (by omega) (by omega)]; exact w64_id (by omega) (by omega)
    have u2 : w64 (w64 (f * p) - w64 (pick1 f p * 65536)) = f * p - pick1 f p * 65536 := by
      rw [w64_id (x := f * p) (by omega) (by omega), w64_id (x := pick1 f p * 65536) (by omega) (by omega)]; exact w64_id (by omega) (by omega)
    rw [F90_L3, d1, cond_true, d2, cond_true, F56_r (L + 1) p (by omega) (by omega) hp (by omega), Option.bind_some, e2]
    have goal2 : pick2 f p = if rnd (L + 1) p = f ∧ (pick1 f p < 0 ∨ (L + 1) * 65536 - f * p < f * p - pick1 f p * 65536) then L + 1 else pick1 f p := by
      unfold pick2
      rw [← hL]
      by_cases h : rnd (L + 1) p = f ∧ (pick1 f p < 0 ∨ (L + 1) * 65536 - f * p < f * p - pick1 f p * 65536)
      · rw [if_pos h, if_pos ⟨c, h⟩]
      · rw [if_neg h, if_neg (fun h2 => h h2.2)]
    rw [goal2]
    by_cases c1 : rnd (L + 1) p = f
    · rw [c1, hf, beq_self_eq_true, cond_true]
      by_cases c2 : pick1 f p < 0
      · rw [decide_eq_true c2, cond_true, last, if_pos ⟨rfl, Or.inl c2⟩]
      · rw [decide_eq_false c2, cond_false]
        by_cases c3 : (L + 1) * 65536 - f * p < f * p - pick1 f p * 65536
        · have d4 : decide (w64 (w64 ((L + 1) * 65536) - w64 (f * p)) < w64 (w64 (f * p) - w64 (pick1 f p * 65536))) = true := by
            rw [u1, u2]; exact decide_eq_true c3
          rw [d4, cond_true, last, if_pos ⟨rfl, Or.inr c3⟩]
        · have d4 : decide (w64 (w64 ((L + 1) * 65536) - w64 (f * p)) < w64 (w64 (f * p) - w64 (pick1 f p * 65536))) = false := by
            rw [u1, u2]; exact decide_eq_false c3
          rw [d4, cond_false, last, if_neg (by rintro ⟨_, h | h⟩ <;> contradiction)]
    · rw [beq_eq_false_iff_ne.2 (by rw [hf]; exact c1), cond_false, last, if_neg (fun h => c1 h.1)]
  · have d2 : decide (L + 1 < p) = false := decide_eq_false c
    rw [F90_L3, d1, cond_true, d2, cond_false]
    unfold pick2
    rw [← hL, if_neg (fun h => c h.1)]
end
end Go.Proofs.YtjfpcgkgdajcfaaGreatDoor

/-
  fix.Text, as it stands at this seat: what it writes (its loop and the whole); no condition but the sizes named.
-/
open Go Go.Ev Go.Proofs
namespace Go.Proofs.YtjfpcgkgdajcfaaGreatDoor
set_option linter.unusedSimpArgs false
set_option linter.unusedVariables false
/-- The digits behind the point. -/
def fracN : Nat → Int → Nat → Int → List UInt8
  | 0, _, _, _ => []
  | j + 1, f, n, p => if good f p = true then padded (nst f p).toNat n else fracN j f (n + 1) (p * 10)
def fracS (f : Int) : List UInt8 := if f = 0 then [] else 46 :: fracN 5 f 1 10
def textS (a : Int) : List UInt8 := (if a < 0 then [45] else []) ++ (Lib.decDigits (a.natAbs / 65536) ++ fracS (a.natAbs % 65536 : Nat))
section
variable {k : Nat}
theorem X109_eq (a : Int) (h0 : 0 ≤ a) (h1 : a ≤ 9223372036854775807) : X109 (k + 1) a = some (Lib.decDigits a.toNat) := by
  rw [X109]
  rw [decide_eq_true ⟨by omega, h1⟩, cond_true]
  unfold Lib.itoa
  rw [if_neg (by omega)]
theorem X111_eq (c : Nat) (h : c ≤ 1000) : X111 (k + 1) [48] (c : Int) = some (List.replicate c 48) := by
  rw [X111]
  rw [decide_eq_true ⟨by omega, by omega, by simp; omega⟩, cond_true, Int.toNat_natCast, repeat_zero]
theorem sz {n m : Nat} (h : n ≤ 100000) (hm : m ≤ 100000) : decide (n + m < 2 ^ 62) = true := decide_eq_true (by
  have : (200001 : Nat) < 2 ^ 62 := by decide
  omega)
theorem F90_L4_eq {a f : Int} (hf : a.tmod 65536 = f) (hf0 : 0 ≤ f) (hf1 : f ≤ 65535) (x : List UInt8) (hx : x.length ≤ 100) : ∀ (j m n : Nat) (p : Int), j ≤ m → 1 ≤ n → n + j = 6 → p = 10 ^ n → 1 ≤ j →
    F90_L4 (k + 14) a x m (n : Int) = some ((([] : List UInt8) ++ x) ++ 46 :: fracN j f n p) := by
  intro j
  induction j with
  | zero => intro m n p hk hn hj hp h1; omega
  | succ j ih =>
    intro m n p hk hn hj hp h1
    obtain ⟨m, rfl⟩ : ∃ r, m = r + 1 := ⟨m - 1, by omega⟩
    have hpp : 0 < p ∧ p ≤ 100000 := by
      have h : ∀ j : Fin 6, (0 : Int) < 10 ^ j.val ∧ (10 : Int) ^ j.val ≤ 100000 := by decide
      have := h ⟨n, by omega⟩
      simp only at this
      rw [hp]; exact this
    have hs := F90_L6_eq (k := k + 12) hf hf0 hf1 hpp.1 hpp.2 (k + 11)
    rw [show k + 12 + 2 = k + 14 from rfl, show k + 11 + 3 = k + 14 from rfl, pick_is f p hpp.1 hf0 hf1] at hs
    have hpow := F110_eq (k := k + 2) n (by omega)
    rw [show k + 2 + 12 = k + 14 from rfl, ← hp] at hpow
    rw [F90_L4, hpow, Option.bind_some, hs, Option.bind_some]
    unfold fracN
    by_cases g : good f p = true
    · rw [if_pos g, if_pos g]
      have g2 := (good_iff f p).1 g
      have gn := nst_nonneg f p hpp.1 hf0
      have hlen := decDigits_len n (nst f p).toNat (by
        have e : ((10 ^ n : Nat) : Int) = (10 : Int) ^ n := by simp
        omega) hn
      have hlp := decDigits_pos (nst f p).toNat
      have d1 : decide ((0 : Int) ≤ nst f p) = true := decide_eq_true gn
      have e1 : w64 ((n : Int) - (((Lib.decDigits (nst f p).toNat).length : Nat) : Int)) = ((n - (Lib.decDigits (nst f p).toNat).length : Nat) : Int) := by
        rw [w64_id (by omega) (by omega)]; omega
      rw [d1, cond_true, X109_eq (k := k + 13) _ gn (by omega), Option.bind_some, e1, X111_eq (k := k + 13) _ (by omega)]
      simp only [Option.bind_some, List.length_append, List.length_cons, List.length_nil, List.length_replicate]
      rw [sz (by omega) (by omega), asrt_true, sz (by omega) (by omega), asrt_true, sz (by omega) (by omega), asrt_true]
      unfold padded
      simp
    · rw [if_neg g, if_neg g]
      have hj1 : 1 ≤ j := by
        apply Classical.byContradiction
        intro hc
        have hn5 : n = 5 := by omega
        subst hn5
        apply g
        rw [hp]
        exact good_five f hf0 hf1
      have d1 : decide ((0 : Int) ≤ -1) = false := rfl
      rw [d1, cond_false, w64_id (x := (n : Int) + 1) (by omega) (by omega)]
      exact ih m (n + 1) (p * 10) (by omega) (by omega) (by omega) (by rw [hp, Int.pow_succ]) hj1
theorem F90_L1_eq {a f : Int} (hf : (w64 (0 - a)).tmod 65536 = f) (hf0 : 0 ≤ f) (hf1 : f ≤ 65535) (x : List UInt8) (hx : x.length ≤ 100) : ∀ (j m n : Nat) (p : Int), j ≤ m → 1 ≤ n → n + j = 6 → p = 10 ^ n → 1 ≤ j →
    F90_L1 (k + 14) a x m (n : Int) = some ((([45] : List UInt8) ++ x) ++ 46 :: fracN j f n p) := by
  intro j
  induction j with
  | zero => intro m n p hk hn hj hp h1; omega
  | succ j ih =>
    intro m n p hk hn hj hp h1
    obtain ⟨m, rfl⟩ : ∃ r, m = r + 1 := ⟨m - 1, by omega⟩
    have hpp : 0 < p ∧ p ≤ 100000 := by
      have h : ∀ j : Fin 6, (0 : Int) < 10 ^ j.val ∧ (10 : Int) ^ j.val ≤ 100000 := by decide
      have := h ⟨n, by omega⟩
      simp only at this
      rw [hp]; exact this
    have hs := F90_L3_eq (k := k + 12) hf hf0 hf1 hpp.1 hpp.2 (k + 11)
    rw [show k + 12 + 2 = k + 14 from rfl, show k + 11 + 3 = k + 14 from rfl, pick_is f p hpp.1 hf0 hf1] at hs
    have hpow := F110_eq (k := k + 2) n (by omega)
    rw [show k + 2 + 12 = k + 14 from rfl, ← hp] at hpow
    rw [F90_L1, hpow, Option.bind_some, hs, Option.bind_some]
    unfold fracN
    by_cases g : good f p = true
    · rw [if_pos g, if_pos g]
      have g2 := (good_iff f p).1 g
      have gn := nst_nonneg f p hpp.1 hf0
      have hlen := decDigits_len n (nst f p).toNat (by
        have e : ((10 ^ n : Nat) : Int) = (10 : Int) ^ n := by simp
        omega) hn
      have hlp := decDigits_pos (nst f p).toNat
      have d1 : decide ((0 : Int) ≤ nst f p) = true := decide_eq_true gn
      have e1 : w64 ((n : Int) - (((Lib.decDigits (nst f p).toNat).length : Nat) : Int)) = ((n - (Lib.decDigits (nst f p).toNat).length : Nat) : Int) := by
        rw [w64_id (by omega) (by omega)]; omega
      rw [d1, cond_true, X109_eq (k := k + 13) _ gn (by omega), Option.bind_some, e1, X111_eq (k := k + 13) _ (by omega)]
      simp only [Option.bind_some, List.length_append, List.length_cons, List.length_nil, List.length_replicate]
      rw [sz (by omega) (by omega), asrt_true, sz (by omega) (by omega), asrt_true, sz (by omega) (by omega), asrt_true]
      unfold padded
      simp
    · rw [if_neg g, if_neg g]
      have hj1 : 1 ≤ j := by
        apply Classical.byContradiction
        intro hc
        have hn5 : n = 5 := by omega
        subst hn5
        apply g
        rw [hp]
        exact good_five f hf0 hf1
      have d1 : decide ((0 : Int) ≤ -1) = false := rfl
      rw [d1, cond_false, w64_id (x := (n : Int) + 1) (by omega) (by omega)]
      exact ih m (n + 1) (p * 10) (by omega) (by omega) (by omega) (by rw [hp, Int.pow_succ]) hj1
def isFix (a : Int) : Bool := decide (-2147483647 ≤ a ∧ a ≤ 2147483647)
theorem F108_eq (a : Int) : F108 (k + 3) false [.int .i64 a] = some (isFix a) := by
  have e0 : decide ((0 : Int) < (([AV.int .i64 a].length : Nat) : Int)) = true := rfl
  have e1 : decide (0 ≤ (0 : Int) ∧ (0 : Int) < (([AV.int .i64 a].length : Nat) : Int)) = true := rfl
  have e2 : okE false [.int .i64] [AV.int .i64 a] (Int.toNat 0) = true := rfl
  have e3 : AV.intOf (List.getD [AV.int .i64 a] (Int.toNat 0) .undef) = a := rfl
  have e4 : w64 ((0 : Int) + 1) = 1 := by decide
  have e5 : decide ((1 : Int) < (([AV.int .i64 a].length : Nat) : Int)) = false := rfl
  rw [F108, F108_L1]
  simp only [e0, e1, e2, e3, e4, cond_true, asrt_true]
  unfold isFix
  by_cases h1 : a < -2147483647
  · rw [decide_eq_true h1, cond_true, decide_eq_false (show ¬ (-2147483647 ≤ a ∧ a ≤ 2147483647) by omega)]; rfl
  · rw [decide_eq_false h1, cond_false]
    by_cases h2 : 2147483647 < a
    · rw [decide_eq_true h2, cond_true, decide_eq_false (show ¬ (-2147483647 ≤ a ∧ a ≤ 2147483647) by omega)]; rfl
    · rw [decide_eq_false h2, cond_false, F108_L1, e5, cond_false, decide_eq_true (show -2147483647 ≤ a ∧ a ≤ 2147483647 by omega)]; rfl
theorem F90_eq (a : Int) : F90 (k + 20) a = some (if isFix a = true then (textS a, 0) else ([], 2)) := by
  rw [F90, F108_eq (k := k + 16), Option.bind_some]
  by_cases hF : isFix a = true
  · rw [hF, cond_true, if_pos rfl]
    have hb := of_decide_eq_true hF
    have hlen : ∀ n : Nat, n ≤ 2147483647 → (Lib.decDigits n).length ≤ 10 := fun n hn => decDigits_len 10 n (by omega) (by omega)
    by_cases h0 : a < 0
    · have en : w64 (0 - a) = -a := by rw [w64_id (by omega) (by omega)]; omega
      have e1 : w64 ((w64 (0 - a)).tdiv 65536) = ((a.natAbs / 65536 : Nat) : Int) := by
        rw [en, Int.tdiv_eq_ediv_of_nonneg (by omega), w64_id (by omega) (by omega)]; omega
      have e2 : (w64 (0 - a)).tmod 65536 = ((a.natAbs % 65536 : Nat) : Int) := by
        rw [en, Int.tmod_eq_emod_of_nonneg (by omega)]; omega
      have hl := hlen (a.natAbs / 65536) (by omega)
      rw [decide_eq_true h0, cond_true, e1, X109_eq (k := k + 18) _ (by omega) (by omega), Option.bind_some, Int.toNat_natCast, sz (by omega) (by omega), asrt_true, e2]
      unfold textS fracS
      rw [if_pos h0]
      by_cases hz : a.natAbs % 65536 = 0
      · rw [hz]; simp
      · have hz2 : ((((a.natAbs % 65536 : Nat) : Int)) == 0) = false := by rw [beq_eq_false_iff_ne]; omega
        have := F90_L1_eq (k := k + 5) e2 (by omega) (by omega) (Lib.decDigits (a.natAbs / 65536)) (by omega) 5 (k + 19) 1 10 (by omega) (by omega) (by omega) rfl (by omega)
        rw [show k + 5 + 14 = k + 19 from rfl, show ((1 : Nat) : Int) = 1 from rfl] at this
        rw [hz2, cond_false, this, Option.bind_some, if_neg (by omega)]
        simp
    · have e1 : w64 (a.tdiv 65536) = ((a.natAbs / 65536 : Nat) : Int) := by
        rw [Int.tdiv_eq_ediv_of_nonneg (by omega), w64_id (by omega) (by omega)]; omega
      have e2 : a.tmod 65536 = ((a.natAbs % 65536 : Nat) : Int) := by
        rw [Int.tmod_eq_emod_of_nonneg (by omega)]; omega
      have hl := hlen (a.natAbs / 65536) (by omega)
      rw [decide_eq_false h0, cond_false, e1, X109_eq (k := k + 18) _ (by omega) (by omega), Option.bind_some, Int.toNat_natCast, sz (by omega) (by omega), asrt_true, e2]
      unfold textS fracS
      rw [if_neg h0]
      by_cases hz : a.natAbs % 65536 = 0
      · rw [hz]; simp
      · have hz2 : ((((a.natAbs % 65536 : Nat) : Int)) == 0) = false := by rw [beq_eq_false_iff_ne]; omega
        have := F90_L4_eq (k := k + 5) e2 (by omega) (by omega) (Lib.decDigits (a.natAbs / 65536)) (by omega) 5 (k + 19) 1 10 (by omega) (by omega) (by omega) rfl (by omega)
        rw [show k + 5 + 14 = k + 19 from rfl, show ((1 : Nat) : Int) = 1 from rfl] at this
        rw [hz2, cond_false, this, Option.bind_some, if_neg (by omega)]
        simp
  · have hF' : isFix a = false := by cases h : isFix a <;> simp_all
    rw [hF', cond_false, if_neg (by simp)]
end
end Go.Proofs.YtjfpcgkgdajcfaaGreatDoor

/-
  The reference's numerals, as they stand at this seat; no condition but the sizes named.
-/
open Go Go.Ev Go.Proofs
namespace Go.Proofs.YtjfpcgkgdajcfaaGreatDoor
set_option linter.unusedSimpArgs false
set_option linter.unusedVariables false
section
variable {k : Nat}
end
end Go.Proofs.YtjfpcgkgdajcfaaGreatDoor

/-
  The reference's Text, as it stands at this seat: what it writes; no condition but the sizes named.
-/
open Go Go.Ev Go.Proofs
namespace Go.Proofs.YtjfpcgkgdajcfaaGreatDoor
set_option linter.unusedSimpArgs false
set_option linter.unusedVariables false
section
variable {k : Nat}
end
end Go.Proofs.YtjfpcgkgdajcfaaGreatDoor

/-
  A point's text, here and in the reference: the same; no condition but the sizes named.
-/
open Go Go.Ev Go.Proofs
namespace Go.Proofs.YtjfpcgkgdajcfaaGreatDoor
set_option linter.unusedSimpArgs false
set_option linter.unusedVariables false
theorem fracN_len (f : Int) (hf0 : 0 ≤ f) : ∀ (j n : Nat) (p : Int), n + j = 6 → 1 ≤ n → p = 10 ^ n → (fracN j f n p).length ≤ 6 := by
  intro j
  induction j with
  | zero => intro n p _ _ _; simp [fracN]
  | succ j ih =>
    intro n p hn h1 hp
    unfold fracN
    split
    · rename_i g
      have g2 := (good_iff f p).1 g
      have hpp : 0 < p := by
        have h : ∀ j : Fin 6, (0 : Int) < 10 ^ j.val := by decide
        rw [hp]; exact h ⟨n, by omega⟩
      have gn := nst_nonneg f p hpp hf0
      have := decDigits_len n (nst f p).toNat (by
        have e : ((10 ^ n : Nat) : Int) = (10 : Int) ^ n := by simp
        omega) h1
      unfold padded
      rw [List.length_append, List.length_replicate]; omega
    · exact ih (n + 1) (p * 10) (by omega) (by omega) (by rw [hp, Int.pow_succ])
theorem textS_len (a : Int) (h : isFix a = true) : (textS a).length ≤ 20 := by
  have hb := of_decide_eq_true h
  have h1 := decDigits_len 10 (a.natAbs / 65536) (by omega) (by omega)
  have h2 := fracN_len ((a.natAbs % 65536 : Nat) : Int) (by omega) 5 1 10 (by omega) (by omega) rfl
  unfold textS fracS
  rw [List.length_append, List.length_append]
  split <;> split <;> simp only [List.length_cons, List.length_nil] <;> omega
/-- What is written of a number. -/
def txt (a : Int) : List UInt8 := if isFix a = true then textS a else []
theorem txt_len (a : Int) : (txt a).length ≤ 20 := by
  unfold txt; split
  · rename_i h; exact textS_len a h
  · simp
def ptS (a b : Int) : List UInt8 := (((([40] : List UInt8) ++ txt a) ++ ([44] : List UInt8)) ++ txt b) ++ ([41] : List UInt8)
theorem F60_eq {k : Nat} (a b : Int) : F60 (k + 21) a b = some (ptS a b) := by
  have ha := txt_len a
  have hb := txt_len b
  have f : ∀ x, ∃ e, F90 (k + 20) x = some (txt x, e) := fun x => by
    rw [F90_eq]; unfold txt; split
    · exact ⟨_, rfl⟩
    · exact ⟨_, rfl⟩
  obtain ⟨e1, h1⟩ := f a
  obtain ⟨e2, h2⟩ := f b
  rw [F60, h1, Option.bind_some, h2, Option.bind_some]
  simp only [List.length_append, List.length_cons, List.length_nil]
  rw [sz (by omega) (by omega), asrt_true, sz (by omega) (by omega), asrt_true, sz (by omega) (by omega), asrt_true, sz (by omega) (by omega), asrt_true]
  rfl
end Go.Proofs.YtjfpcgkgdajcfaaGreatDoor

/-
  Reading numerals, plainly; no condition but the sizes named.
-/
open Go Go.Ev Go.Proofs
namespace Go.Proofs.YtjfpcgkgdajcfaaGreatDoor
set_option linter.unusedSimpArgs false
set_option linter.unusedVariables false

def isDg (c : UInt8) : Bool := decide (48 ≤ c.toNat) && decide (c.toNat ≤ 57)
def dgStep (acc : Nat) (c : UInt8) : Nat := acc * 10 + (c.toNat - 48)
def numF (acc : Nat) (l : List UInt8) : Nat := l.foldl dgStep acc
theorem numF_nil (acc : Nat) : numF acc [] = acc := rfl
theorem numF_cons (acc : Nat) (c : UInt8) (l : List UInt8) : numF acc (c :: l) = numF (dgStep acc c) l := by unfold numF; rw [List.foldl_cons]
def num (l : List UInt8) : Nat := numF 0 l
/-- At least so many digits, and at most nine. -/
def okL (least : Nat) (l : List UInt8) : Bool := decide (least ≤ l.length) && decide (l.length ≤ 9) && l.all isDg
/-- What stands ahead of the first point, and behind it. -/
def cutD (l : List UInt8) : List UInt8 × List UInt8 × Bool := (l.takeWhile (· != 46), (l.dropWhile (· != 46)).tail, (l.dropWhile (· != 46)) != [])
def told (a : Int) : Int × Int := if isFix a = true then (a, 0) else (0, 17)
def readS (neg : Bool) (w part : List UInt8) : Int × Int :=
  told (if neg = true then -((num w : Int) * 65536 + rnd (num part) (10 ^ part.length)) else (num w : Int) * 65536 + rnd (num part) (10 ^ part.length))
def parse1 (neg : Bool) (l : List UInt8) : Int × Int :=
  if (if (cutD l).2.2 = true then okL 0 (cutD l).1 && okL 1 (cutD l).2.1 else okL 1 (cutD l).1) = true then readS neg (cutD l).1 (cutD l).2.1 else (0, 30)
def parseS (l : List UInt8) : Int × Int := match l with
  | 45 :: r => parse1 true r
  | _ => parse1 false l

/-! ### The library's words -/
theorem index_dot (l : List UInt8) : (l.dropWhile (· != 46) = [] → Lib.index l [46] = -1) ∧ (l.dropWhile (· != 46) ≠ [] → Lib.index l [46] = ((l.takeWhile (· != 46)).length : Int)) := by
  induction l with
  | nil => exact ⟨fun _ => rfl, fun h => absurd rfl h⟩
  | cons b l ih =>
    unfold Lib.index
    by_cases h : b = 46
    · subst h
      rw [List.dropWhile_cons_of_neg (by simp), List.takeWhile_cons_of_neg (by simp)]
      exact ⟨fun h => (by cases h), fun _ => by simp [List.isPrefixOf]⟩
    · have h2 : (b != 46) = true := by simpa using h
      rw [List.dropWhile_cons_of_pos (p := fun x => x != 46) h2, List.takeWhile_cons_of_pos (p := fun x => x != 46) h2]
      have h3 : List.isPrefixOf [46] (b :: l) = false := by
        simp only [List.isPrefixOf, Bool.and_true]
        exact beq_eq_false_iff_ne.2 (fun e => h e.symm)
      rw [h3]
      constructor
      · intro hd
        rw [ih.1 hd]; decide
      · intro hd
        rw [ih.2 hd]
        have : ¬ ((((l.takeWhile (· != 46)).length : Int) == -1) = true) := by simp
        rw [if_neg (by decide), if_neg this, List.length_cons]
        omega
theorem take_drop (l : List UInt8) : l.takeWhile (· != 46) ++ l.dropWhile (· != 46) = l := List.takeWhile_append_dropWhile
theorem cut_dot (l : List UInt8) : Lib.cut l [46] = cutD l := by
  unfold Lib.cut cutD
  have hi := index_dot l
  have ht := take_drop l
  by_cases hd : l.dropWhile (· != 46) = []
  · rw [hi.1 hd, if_neg (by omega), hd]
    rw [hd, List.append_nil] at ht
    rw [ht]; rfl
  · rw [hi.2 hd, if_pos (by omega)]
    have e1 := @List.take_left _ (l.takeWhile (· != 46)) (l.dropWhile (· != 46))
    have e2 := @List.drop_left _ (l.takeWhile (· != 46)) (l.dropWhile (· != 46))
    rw [ht] at e1 e2
    have e3 : l.drop ((l.takeWhile (· != 46)).length + ([46] : List UInt8).length) = (l.dropWhile (· != 46)).tail := by
      rw [← List.drop_drop, e2]
      cases l.dropWhile (· != 46) <;> rfl
    rw [Int.toNat_natCast, e1, e3]
    simp [hd]
theorem dW_nil (p : UInt8 → Bool) (l : List UInt8) : l.dropWhile p = [] ↔ ∀ c ∈ l, p c = true := by
  induction l with
  | nil => simp
  | cons b l ih =>
    by_cases h : p b = true
    · rw [List.dropWhile_cons_of_pos h, ih]; simp [h]
    · rw [List.dropWhile_cons_of_neg h]
      constructor
      · intro e; cases e
      · intro e; exact absurd (e b (by simp)) h
theorem trim_digits (l : List UInt8) : (Lib.trimS l [48, 49, 50, 51, 52, 53, 54, 55, 56, 57] = []) ↔ l.all isDg = true := by
  have hm : ∀ c : UInt8, ([48, 49, 50, 51, 52, 53, 54, 55, 56, 57] : List UInt8).contains c = isDg c := by
    have : ∀ n : Fin 256, ([48, 49, 50, 51, 52, 53, 54, 55, 56, 57] : List UInt8).contains (UInt8.ofNat n.val) = isDg (UInt8.ofNat n.val) := by decide +kernel
    intro c
    have h := this ⟨c.toNat, c.toNat_lt⟩
    simpa using h
  unfold Lib.trimS Lib.trimLeftS Lib.trimRightS
  have hf : (fun x => ([48, 49, 50, 51, 52, 53, 54, 55, 56, 57] : List UInt8).contains x) = isDg := funext hm
  rw [hf]
  constructor
  · intro h
    rw [dW_nil] at h
    rw [List.all_eq_true]
    intro c hc
    have hs : l.reverse.takeWhile isDg ++ l.reverse.dropWhile isDg = l.reverse := List.takeWhile_append_dropWhile
    have hc2 : c ∈ l.reverse := by simpa using hc
    rw [← hs, List.mem_append] at hc2
    rcases hc2 with h1 | h1
    · exact List.all_eq_true.1 (List.all_takeWhile (p := isDg) (l := l.reverse)) c h1
    · exact h c (by simpa using h1)
  · intro h
    rw [List.all_eq_true] at h
    have h2 : l.reverse.dropWhile isDg = [] := by
      rw [dW_nil]
      intro c hc
      exact h c (by simpa using hc)
    rw [h2]; rfl
def dropSign (l : List UInt8) : List UInt8 := match l with
  | 45 :: r => r
  | _ => l
theorem numF_lt (l : List UInt8) : ∀ acc, l.all isDg = true → numF acc l < (acc + 1) * 10 ^ l.length := by
  induction l with
  | nil => intro acc _; rw [numF_nil]; simp
  | cons c l ih =>
    intro acc h
    simp only [List.all_cons, Bool.and_eq_true, isDg, decide_eq_true_eq] at h
    have := ih (dgStep acc c) h.2
    rw [numF_cons, List.length_cons, Nat.pow_succ]
    have h3 : dgStep acc c + 1 ≤ (acc + 1) * 10 := by unfold dgStep; omega
    have h4 := Nat.mul_le_mul_right (10 ^ l.length) h3
    rw [Nat.mul_assoc, Nat.mul_comm 10 (10 ^ l.length)] at h4
    exact Nat.lt_of_lt_of_le this h4
theorem num_lt (least : Nat) (l : List UInt8) (h : okL least l = true) : num l < 10 ^ l.length ∧ num l < 1000000000 ∧ l.length ≤ 9 ∧ l.all isDg = true := by
  unfold okL at h
  simp only [Bool.and_eq_true, decide_eq_true_eq] at h
  have h1 := numF_lt l 0 h.2
  have h2 : 10 ^ l.length ≤ 1000000000 := Nat.pow_le_pow_right (n := 10) (by omega) h.1.2
  unfold num
  generalize 10 ^ l.length = P at *
  refine ⟨by omega, by omega, h.1.2, h.2⟩
theorem decFrom_num (l : List UInt8) : ∀ acc, l.all isDg = true → Lib.decFrom acc l = some (numF acc l) := by
  induction l with
  | nil => intro acc _; rw [numF_nil, Lib.decFrom]
  | cons c l ih =>
    intro acc h
    simp only [List.all_cons, Bool.and_eq_true, isDg, decide_eq_true_eq] at h
    rw [Lib.decFrom, Lib.digitVal, if_pos h.1, numF_cons]
    exact ih _ h.2
end Go.Proofs.YtjfpcgkgdajcfaaGreatDoor

/-
  fix.Parse, as it stands at this seat; no condition but the sizes named.
-/
open Go Go.Ev Go.Proofs
namespace Go.Proofs.YtjfpcgkgdajcfaaGreatDoor
set_option linter.unusedSimpArgs false
set_option linter.unusedVariables false
section
variable {k : Nat}
theorem F118_eq (a : Int) : F118 (k + 4) a = some (told a) := by
  rw [F118, F108_eq (k := k), Option.bind_some]
  unfold told
  cases isFix a <;> rfl
theorem F116_eq (l : List UInt8) (least : Nat) (h : l.length ≤ 20000) : F116 (k + 2) l (least : Int) = some (okL least l) := by
  rw [F116]
  unfold okL
  by_cases h1 : least ≤ l.length
  · rw [decide_eq_true (show (least : Int) ≤ (l.length : Int) by omega), cond_true, decide_eq_true h1]
    by_cases h2 : l.length ≤ 9
    · rw [decide_eq_true (show (l.length : Int) ≤ 9 by omega), cond_true, decide_eq_true h2]
      have hx : X136 (k + 1) l [48, 49, 50, 51, 52, 53, 54, 55, 56, 57] = some (Lib.trimS l [48, 49, 50, 51, 52, 53, 54, 55, 56, 57]) := by
        rw [X136]
        have : (decide (l.length ≤ 9223372036854775807 ∧ ([48, 49, 50, 51, 52, 53, 54, 55, 56, 57] : List UInt8).length < 4294967281) && ([48, 49, 50, 51, 52, 53, 54, 55, 56, 57] : List UInt8).all (fun x => decide (x.toNat < 128))) = true := by
          rw [Bool.and_eq_true]
          exact ⟨decide_eq_true ⟨by omega, by decide⟩, by decide⟩
        rw [this, cond_true]
      rw [hx, Option.bind_some]
      have ht := trim_digits l
      by_cases h3 : l.all isDg = true
      · rw [h3, ht.2 h3]; rfl
      · have h4 : ¬ Lib.trimS l [48, 49, 50, 51, 52, 53, 54, 55, 56, 57] = [] := fun e => h3 (ht.1 e)
        rw [beq_eq_false_iff_ne.2 h4]
        cases hh : l.all isDg
        · rfl
        · exact absurd hh h3
    · rw [decide_eq_false (show ¬ (l.length : Int) ≤ 9 by omega), cond_false, decide_eq_false h2]; simp
  · rw [decide_eq_false (show ¬ (least : Int) ≤ (l.length : Int) by omega), cond_false, decide_eq_false h1]; simp
end
end Go.Proofs.YtjfpcgkgdajcfaaGreatDoor

/-
  Prefixes, as they stand at this seat; no condition but the sizes named.
-/
open Go Go.Ev Go.Proofs
namespace Go.Proofs.YtjfpcgkgdajcfaaGreatDoor
set_option linter.unusedSimpArgs false
set_option linter.unusedVariables false
section
variable {k : Nat}
/-- Without a prefix that is there. -/
def trimP (a b : List UInt8) : List UInt8 := if a.take b.length = b then a.drop b.length else a
theorem F119_eq (a b : List UInt8) : F119 (k + 1) a b = some (decide (a.take b.length = b)) := by
  rw [F119]
  by_cases h : b.length ≤ a.length
  · rw [decide_eq_true (show (b.length : Int) ≤ (a.length : Int) by omega), cond_true, decide_eq_true (show 0 ≤ (0 : Int) ∧ (0 : Int) ≤ (b.length : Int) ∧ (b.length : Int) ≤ (a.length : Int) by omega), asrt_true]
    have : sub 0 b.length a = a.take b.length := by unfold sub; simp
    rw [this]
    congr 1
    rw [Bool.eq_iff_iff]; simp
  · rw [decide_eq_false (show ¬ (b.length : Int) ≤ (a.length : Int) by omega), cond_false, decide_eq_false]
    intro e
    have := congrArg List.length e
    rw [List.length_take] at this
    omega
theorem F67_eq (a b : List UInt8) : F67 (k + 3) a b = some (trimP a b) := by
  rw [F67, F95, F119_eq (k := k), Option.bind_some]
  unfold trimP
  by_cases h : a.take b.length = b
  · have hl : b.length ≤ a.length := by
      have := congrArg List.length h
      rw [List.length_take] at this; omega
    rw [decide_eq_true h, cond_true, if_pos h, decide_eq_true (show 0 ≤ (b.length : Int) ∧ (b.length : Int) ≤ (a.length : Int) ∧ (a.length : Int) ≤ (a.length : Int) by omega), asrt_true, Option.bind_some]
    have : sub b.length a.length a = a.drop b.length := by unfold sub; simp
    rw [this]
  · rw [decide_eq_false h, cond_false, if_neg h]; rfl
end
end Go.Proofs.YtjfpcgkgdajcfaaGreatDoor

/-
  The library's functions that reading uses, as they stand at this seat; no condition but the sizes named.
-/
open Go Go.Ev Go.Proofs
namespace Go.Proofs.YtjfpcgkgdajcfaaGreatDoor
set_option linter.unusedSimpArgs false
set_option linter.unusedVariables false
theorem X117_eq {k : Nat} (least : Nat) (l : List UInt8) (h : okL least l = true) : X117 (k + 1) (48 :: l) = some ((num l : Int), .val .nilIface) := by
  obtain ⟨_, _, h9, hd⟩ := num_lt least l h
  rw [X117, decide_eq_true (by simp; omega), cond_true, Lib.atoiAll_short _ (by simp; omega)]
  have e : Lib.atoi (48 :: l) = some (num l : Int) := by
    simp only [Lib.atoi, Lib.decNat, List.isEmpty_cons, Lib.decFrom, Lib.digitVal]
    rw [if_neg (by decide), if_neg (by decide), if_neg (by decide), if_pos (by decide)]
    simp only
    rw [decFrom_num l _ hd]
    rfl
  rw [e]
  rfl
theorem X93_dot {k : Nat} (l : List UInt8) (h : l.length ≤ 20000) : X93 (k + 1) l [46] = some (cutD l) := by
  rw [X93, decide_eq_true (by omega), cond_true, cut_dot]
theorem ten_nine (n : Nat) (h : n ≤ 9) : (1 : Int) ≤ 10 ^ n ∧ (10 : Int) ^ n ≤ 1000000000 := by
  have : ∀ j : Fin 10, (1 : Int) ≤ 10 ^ j.val ∧ (10 : Int) ^ j.val ≤ 1000000000 := by decide
  exact this ⟨n, by omega⟩
theorem rnd_bd (v : Nat) (p : Int) (hv : v < 1000000000) (this : 1 ≤ p ∧ p ≤ 1000000000) : 0 ≤ rnd v p ∧ rnd v p ≤ 65536000000001 := by
  unfold rnd
  constructor
  · exact Int.ediv_nonneg (by omega) (by omega)
  · have h1 : (2 * ((v : Int) * 65536) + p) / (2 * p) ≤ 2 * ((v : Int) * 65536) + p := Int.ediv_le_self _ (by omega)
    have h0 := Int.mul_ediv_self_le (x := 2 * ((v : Int) * 65536) + p) (k := 2 * p) (by omega)
    have hq : 0 ≤ (2 * ((v : Int) * 65536) + p) / (2 * p) := Int.ediv_nonneg (by omega) (by omega)
    generalize (2 * ((v : Int) * 65536) + p) / (2 * p) = q at *
    by_cases h7 : q = 0
    · omega
    · have h5 := Int.mul_le_mul_of_nonneg_right (show 1 ≤ p by omega) (show 0 ≤ 2 * q - 1 by omega)
      have h6 : p * (2 * q - 1) = 2 * p * q - p := by grind
      omega
end Go.Proofs.YtjfpcgkgdajcfaaGreatDoor

/-
  fix.Parse, as it stands at this seat: what it reads; no condition but the sizes named.
-/
open Go Go.Ev Go.Proofs
namespace Go.Proofs.YtjfpcgkgdajcfaaGreatDoor
set_option linter.unusedSimpArgs false
set_option linter.unusedVariables false
section
variable {k : Nat}
theorem trim_sign (l : List UInt8) : trimP l [45] = dropSign l ∧ (((dropSign l).length < l.length ∧ parseS l = parse1 true (dropSign l)) ∨ ((dropSign l).length = l.length ∧ parseS l = parse1 false (dropSign l))) := by
  cases l with
  | nil => exact ⟨rfl, Or.inr ⟨rfl, rfl⟩⟩
  | cons c r =>
    by_cases h : c = 45
    · subst h
      exact ⟨by unfold trimP dropSign; simp, Or.inl ⟨by unfold dropSign; simp, by unfold parseS dropSign; rfl⟩⟩
    · have e : dropSign (c :: r) = c :: r := by unfold dropSign; split <;> simp_all
      have e2 : parseS (c :: r) = parse1 false (c :: r) := by unfold parseS; split <;> simp_all
      refine ⟨?_, Or.inr ⟨by rw [e], by rw [e, e2]⟩⟩
      rw [e]; unfold trimP; rw [if_neg]; simp [h]
end
end Go.Proofs.YtjfpcgkgdajcfaaGreatDoor

/-
  fix.Parse, as it stands at this seat: the whole; no condition but the sizes named.
-/
open Go Go.Ev Go.Proofs
namespace Go.Proofs.YtjfpcgkgdajcfaaGreatDoor
set_option linter.unusedSimpArgs false
set_option linter.unusedVariables false
section
variable {k : Nat}
theorem F94_eq (l : List UInt8) (hl : l.length ≤ 10000) : F94 (k + 20) l = some (parseS l) := by
  obtain ⟨e1, hs⟩ := trim_sign l
  have hr : (dropSign l).length ≤ l.length := by rcases hs with h | h <;> omega
  rw [F94, F67_eq (k := k + 16), Option.bind_some, e1, X93_dot (k := k + 18) _ (by omega), Option.bind_some]
  have hps : parseS l = parse1 (decide (((dropSign l).length : Int) < (l.length : Int))) (dropSign l) := by
    rcases hs with h | h
    · rw [decide_eq_true (by omega)]; exact h.2
    · rw [decide_eq_false (by omega)]; exact h.2
  rw [hps]
  generalize decide (((dropSign l).length : Int) < (l.length : Int)) = neg
  have hw : (cutD (dropSign l)).1.length ≤ 10000 := by
    have : ((dropSign l).takeWhile (· != 46)).length ≤ (dropSign l).length := (List.takeWhile_sublist _).length_le
    show ((dropSign l).takeWhile (· != 46)).length ≤ 10000
    omega
  have hp : (cutD (dropSign l)).2.1.length ≤ 10000 := by
    have : ((dropSign l).dropWhile (· != 46)).length ≤ (dropSign l).length := (List.dropWhile_sublist _).length_le
    show ((dropSign l).dropWhile (· != 46)).tail.length ≤ 10000
    rw [List.length_tail]; omega
  have hemp : (cutD (dropSign l)).2.2 = false → (cutD (dropSign l)).2.1 = [] := by
    intro h
    have : (dropSign l).dropWhile (· != 46) = [] := by
      have h2 : ((dropSign l).dropWhile (· != 46) != []) = false := h
      simpa using h2
    show ((dropSign l).dropWhile (· != 46)).tail = []
    rw [this]; rfl
  unfold parse1
  generalize (cutD (dropSign l)).1 = w at *
  generalize (cutD (dropSign l)).2.1 = part at *
  generalize (cutD (dropSign l)).2.2 = pt at *
  have yes : ∀ a b, okL a w = true → okL b part = true →
      (Option.bind (X117 (k + 19) (([48] : List UInt8) ++ w)) fun r14 => asrt (decide (1 + part.length < 2 ^ 62)) (Option.bind (X117 (k + 19) (([48] : List UInt8) ++ part)) fun r17 => (Option.bind (F110 (k + 19) ((part.length : Nat) : Int)) fun r19 => (Option.bind (F56 (k + 19) (w64 (r17.1 * (65536 : Int))) r19) fun r21 => (bif neg then (Option.bind (F118 (k + 19) (w64 (0 - (w64 ((w64 (r14.1 * (65536 : Int))) + r21))))) fun r24 => (some (r24.1, r24.2))) else (Option.bind (F118 (k + 19) (w64 ((w64 (r14.1 * (65536 : Int))) + r21))) fun r26 => (some (r26.1, r26.2)))))))) = some (readS neg w part) := by
    intro a b ha hb
    obtain ⟨h1, h2, h3, h4⟩ := num_lt a w ha
    obtain ⟨g1, g2, g3, g4⟩ := num_lt b part hb
    have ht := ten_nine part.length g3
    have hq := rnd_bd (num part) _ g2 ht
    have x1 := X117_eq (k := k + 18) a w ha
    have x2 := X117_eq (k := k + 18) b part hb
    have p1 := F110_eq (k := k + 7) part.length g3
    have p2 := F56_r (k := k + 17) (num part : Int) (10 ^ part.length) (by omega) (by omega) (by omega) (by omega)
    have q1 : w64 ((num w : Int) * 65536) = (num w : Int) * 65536 := w64_id (by omega) (by omega)
    have q2 : w64 ((num w : Int) * 65536 + rnd (num part) (10 ^ part.length)) = (num w : Int) * 65536 + rnd (num part) (10 ^ part.length) := w64_id (by omega) (by omega)
    have q3 : w64 (0 - ((num w : Int) * 65536 + rnd (num part) (10 ^ part.length))) = -((num w : Int) * 65536 + rnd (num part) (10 ^ part.length)) := by rw [w64_id (by omega) (by omega)]; omega
    show (Option.bind (X117 (k + 18 + 1) (48 :: w)) _) = _
    rw [x1, Option.bind_some, sz (by omega) (by omega), asrt_true]
    show (Option.bind (X117 (k + 18 + 1) (48 :: part)) _) = _
    rw [x2, Option.bind_some]
    show (Option.bind (F110 (k + 7 + 12) _) _) = _
    rw [p1, Option.bind_some]
    show (Option.bind (F56 (k + 17 + 2) _ _) _) = _
    rw [p2, Option.bind_some]
    unfold readS
    cases neg with
    | true => simp only [q1, q2, q3, cond_true, F118_eq (k := k + 15), Option.bind_some, if_true]
    | false => simp only [q1, q2, cond_false, F118_eq (k := k + 15), Option.bind_some]; rfl
  have f0 := F116_eq (k := k + 17) w 0 (by omega)
  have f1 := F116_eq (k := k + 17) part 1 (by omega)
  have f2 := F116_eq (k := k + 17) w 1 (by omega)
  rw [show k + 17 + 2 = k + 19 from rfl] at f0 f1 f2
  rw [show ((0 : Nat) : Int) = 0 from rfl] at f0
  rw [show ((1 : Nat) : Int) = 1 from rfl] at f1 f2
  have len9 : ∀ a (x : List UInt8), okL a x = true → x.length ≤ 9 := fun a x h => (num_lt a x h).2.2.1
  cases pt with
  | true =>
    rw [cond_true, f0, Option.bind_some, if_pos rfl]
    cases h1 : okL 0 w with
    | false => simp
    | true =>
      rw [cond_true, f1, Option.bind_some]
      cases h2 : okL 1 part with
      | false => simp
      | true =>
        have := len9 0 w h1
        rw [cond_true, sz (by omega) (by omega), asrt_true, yes 0 1 h1 h2]; simp
  | false =>
    rw [cond_false, f2, Option.bind_some]
    simp only [Bool.false_eq_true, if_false]
    cases h1 : okL 1 w with
    | false => simp
    | true =>
      have := len9 1 w h1
      rw [cond_true, sz (by omega) (by omega), asrt_true, yes 1 0 h1 (by rw [hemp rfl]; rfl)]; simp
end
end Go.Proofs.YtjfpcgkgdajcfaaGreatDoor

/-
  The reference's whole numbers, as they stand at this seat; no condition but the sizes named.
-/
open Go Go.Ev Go.Proofs
namespace Go.Proofs.YtjfpcgkgdajcfaaGreatDoor
set_option linter.unusedSimpArgs false
set_option linter.unusedVariables false
section
variable {k : Nat}
end
end Go.Proofs.YtjfpcgkgdajcfaaGreatDoor

/-
  Every number is read as it was written: plain lemmas on lists of bytes; no condition but the sizes named.
-/
open Go Go.Ev Go.Proofs
namespace Go.Proofs.YtjfpcgkgdajcfaaGreatDoor
set_option linter.unusedSimpArgs false
set_option linter.unusedVariables false
theorem numF_app (a b : List UInt8) (acc : Nat) : numF acc (a ++ b) = numF (numF acc a) b := by unfold numF; rw [List.foldl_append]
theorem dg_all (n : Nat) (h : n < 10) : isDg (UInt8.ofNat (48 + n)) = true ∧ (UInt8.ofNat (48 + n)).toNat = 48 + n := by
  have : ∀ d : Fin 10, isDg (UInt8.ofNat (48 + d.val)) = true ∧ (UInt8.ofNat (48 + d.val)).toNat = 48 + d.val := by decide
  exact this ⟨n, h⟩
theorem dec_all (n : Nat) : (Lib.decDigits n).all isDg = true ∧ num (Lib.decDigits n) = n := by
  induction n using Nat.strongRecOn with
  | _ n ih =>
    by_cases h : n < 10
    · rw [decDigits_one n h]
      obtain ⟨h1, h2⟩ := dg_all n h
      refine ⟨by rw [List.all_cons, List.all_nil, h1]; rfl, ?_⟩
      unfold num
      rw [numF_cons, numF_nil]; unfold dgStep; omega
    · rw [decDigits_ten n (by omega)]
      obtain ⟨h1, h2⟩ := dg_all (n % 10) (by omega)
      obtain ⟨i1, i2⟩ := ih (n / 10) (by omega)
      refine ⟨by simp only [List.all_append, i1, List.all_cons, h1, List.all_nil, Bool.and_self], ?_⟩
      unfold num at i2 ⊢
      rw [numF_app, i2, numF_cons, numF_nil]; unfold dgStep; omega
theorem num_rep (n : Nat) : numF 0 (List.replicate n 48) = 0 := by
  induction n with
  | zero => rfl
  | succ n ih => rw [List.replicate_succ, numF_cons]; exact ih
theorem padded_ok (d n : Nat) (h : d < 10 ^ n) (h1 : 1 ≤ n) : (padded d n).all isDg = true ∧ (padded d n).length = n ∧ num (padded d n) = d := by
  unfold padded
  obtain ⟨a1, a2⟩ := dec_all d
  have hl := decDigits_len n d h h1
  refine ⟨?_, ?_, ?_⟩
  · rw [List.all_append, a1, Bool.and_true, List.all_replicate]; simp [isDg]
  · rw [List.length_append, List.length_replicate]; omega
  · unfold num at a2 ⊢
    rw [numF_app, num_rep, a2]
theorem no_dot (w : List UInt8) (h : w.all isDg = true) : ∀ c ∈ w, (c != 46) = true := by
  intro c hc
  have := List.all_eq_true.1 h c hc
  simp only [isDg, Bool.and_eq_true, decide_eq_true_eq] at this
  rw [bne_iff_ne]
  intro e
  subst e
  have e : (46 : UInt8).toNat = 46 := rfl
  omega
theorem cut_point (w q : List UInt8) (h : w.all isDg = true) : cutD (w ++ 46 :: q) = (w, q, true) := by
  unfold cutD
  rw [List.takeWhile_append_of_pos (no_dot w h), List.dropWhile_append_of_pos (no_dot w h)]
  simp
theorem cut_plain (w : List UInt8) (h : w.all isDg = true) : cutD w = (w, [], false) := by
  have h1 := List.takeWhile_append_of_pos (l₂ := []) (no_dot w h)
  have h2 := List.dropWhile_append_of_pos (l₂ := []) (no_dot w h)
  rw [List.append_nil] at h1 h2
  unfold cutD
  rw [h1, h2]
  simp
def sgb (a : Int) : List UInt8 := if a < 0 then [45] else []
theorem parse_sg (a : Int) (w r : List UInt8) (hw : w.all isDg = true) (h0 : 1 ≤ w.length) : parseS (sgb a ++ (w ++ r)) = parse1 (decide (a < 0)) (w ++ r) := by
  unfold sgb
  by_cases h : a < 0
  · rw [if_pos h, decide_eq_true h]; rfl
  · rw [if_neg h, decide_eq_false h, List.nil_append]
    cases w with
    | nil => simp at h0
    | cons c w =>
      rw [List.cons_append]
      unfold parseS
      split
      · rename_i x y e
        injection e with e1 e2
        subst e1
        simp [isDg] at hw
      · rfl
theorem parse1_point (neg : Bool) (w q : List UInt8) (hw : w.all isDg = true) (hw9 : w.length ≤ 9) (hq : q.all isDg = true) (hq1 : 1 ≤ q.length) (hq9 : q.length ≤ 9) : parse1 neg (w ++ 46 :: q) = readS neg w q := by
  unfold parse1
  rw [cut_point w q hw]
  simp only [if_true]
  unfold okL
  rw [hw, hq, decide_eq_true hw9, decide_eq_true hq1, decide_eq_true hq9]
  simp
theorem parse1_plain (neg : Bool) (w : List UInt8) (hw : w.all isDg = true) (h1 : 1 ≤ w.length) (hw9 : w.length ≤ 9) : parse1 neg w = readS neg w [] := by
  unfold parse1
  rw [cut_plain w hw]
  unfold okL
  rw [hw, decide_eq_true hw9, decide_eq_true h1]
  simp
theorem fracN_is (j : Nat) : ∀ (f : Int) (n : Nat), n + j = 6 → 1 ≤ n → 1 ≤ j → 0 ≤ f → f ≤ 65535 →
    ∃ m : Nat, n ≤ m ∧ m ≤ 5 ∧ fracN j f n (10 ^ n) = padded (nst f (10 ^ m)).toNat m ∧ good f (10 ^ m) = true ∧ ∀ i, n ≤ i → i < m → good f (10 ^ i) = false := by
  induction j with
  | zero => intro f n _ _ h; omega
  | succ j ih =>
    intro f n hn h1 _ h2 h3
    simp only [fracN]
    by_cases hg : good f (10 ^ n) = true
    · exact ⟨n, Nat.le_refl n, by omega, by rw [if_pos hg], hg, fun i a b => by omega⟩
    · rw [if_neg hg]
      have hj : 1 ≤ j := by
        apply Classical.byContradiction
        intro hc
        have e : n = 5 := by omega
        subst e
        exact hg (good_five f h2 h3)
      obtain ⟨m, a, b, c, d, e⟩ := ih f (n + 1) (by omega) (by omega) hj h2 h3
      refine ⟨m, by omega, b, ?_, d, fun i hi hm => ?_⟩
      · rw [← c, Int.pow_succ]
      · by_cases hin : i = n
        · subst hin; simpa using hg
        · exact e i (by omega) hm
/-- What is written. -/
theorem textS_is (a : Int) : (a.natAbs % 65536 = 0 ∧ textS a = sgb a ++ (Lib.decDigits (a.natAbs / 65536) ++ [])) ∨
    (a.natAbs % 65536 ≠ 0 ∧ ∃ m : Nat, 1 ≤ m ∧ m ≤ 5 ∧ textS a = sgb a ++ (Lib.decDigits (a.natAbs / 65536) ++ 46 :: padded (nst (a.natAbs % 65536 : Nat) (10 ^ m)).toNat m) ∧ good (a.natAbs % 65536 : Nat) (10 ^ m) = true ∧ ∀ i, 1 ≤ i → i < m → good (a.natAbs % 65536 : Nat) (10 ^ i) = false) := by
  unfold textS fracS sgb
  by_cases h : a.natAbs % 65536 = 0
  · left
    refine ⟨h, ?_⟩
    rw [h]; rfl
  · right
    refine ⟨h, ?_⟩
    obtain ⟨m, h1, h2, h3, h4, h5⟩ := fracN_is 5 ((a.natAbs % 65536 : Nat) : Int) 1 (by omega) (by omega) (by omega) (by omega) (by omega)
    refine ⟨m, h1, h2, ?_, h4, h5⟩
    rw [if_neg (show ¬ ((a.natAbs % 65536 : Nat) : Int) = 0 by omega), ← h3]; rfl
theorem digits_lt (f : Int) (m : Nat) (h0 : 0 ≤ f) (hg : good f (10 ^ m) = true) : (nst f (10 ^ m)).toNat < 10 ^ m ∧ rnd ((nst f (10 ^ m)).toNat : Int) (10 ^ m) = f := by
  rw [good_iff] at hg
  have e : ((10 ^ m : Nat) : Int) = (10 : Int) ^ m := by simp
  have hp : (0 : Int) < 10 ^ m := Int.pow_pos (by omega)
  have h1 := nst_nonneg f (10 ^ m) hp h0
  refine ⟨by omega, ?_⟩
  rw [Int.toNat_of_nonneg h1]; exact hg.2
theorem whole_len (a : Int) (h : isFix a = true) : 1 ≤ (Lib.decDigits (a.natAbs / 65536)).length ∧ (Lib.decDigits (a.natAbs / 65536)).length ≤ 5 := by
  have h := of_decide_eq_true h
  exact ⟨decDigits_pos _, decDigits_len 5 _ (by omega) (by omega)⟩
theorem rnd_none : rnd ((num [] : Nat) : Int) (10 ^ ([] : List UInt8).length) = 0 := by decide
theorem parse_textS (a : Int) (h : isFix a = true) : parseS (textS a) = (a, 0) := by
  obtain ⟨hl1, hl2⟩ := whole_len a h
  obtain ⟨d1, d2⟩ := dec_all (a.natAbs / 65536)
  have ht : told a = (a, 0) := by unfold told; rw [if_pos h]
  rcases textS_is a with ⟨h0, e⟩ | ⟨h0, m, m1, m5, e, hg, _⟩
  · rw [e, parse_sg a _ _ d1 hl1, List.append_nil, parse1_plain _ _ d1 hl1 (by omega)]
    unfold readS
    rw [rnd_none, d2, ← ht]
    congr 1
    by_cases hn : a < 0
    · rw [if_pos (decide_eq_true hn)]; omega
    · rw [if_neg (by simpa using hn)]; omega
  · obtain ⟨g1, g2⟩ := digits_lt _ m (by omega) hg
    obtain ⟨p1, p2, p3⟩ := padded_ok _ m g1 m1
    rw [e, parse_sg a _ _ d1 hl1, parse1_point _ _ _ d1 (by omega) p1 (by omega) (by omega)]
    unfold readS
    rw [p2, p3, g2, d2, ← ht]
    congr 1
    by_cases hn : a < 0
    · rw [if_pos (decide_eq_true hn)]; omega
    · rw [if_neg (by simpa using hn)]; omega
end Go.Proofs.YtjfpcgkgdajcfaaGreatDoor

/-
  Cutting strings at a byte, and a point's text read back: plain lemmas on lists of bytes; no condition but the sizes named.
-/
open Go Go.Ev Go.Proofs
namespace Go.Proofs.YtjfpcgkgdajcfaaGreatDoor
set_option linter.unusedSimpArgs false
set_option linter.unusedVariables false
/-- What stands ahead of the first such byte, and behind it. -/
def cutC (c : UInt8) (l : List UInt8) : List UInt8 × List UInt8 × Bool := (l.takeWhile (· != c), (l.dropWhile (· != c)).tail, (l.dropWhile (· != c)) != [])
theorem index_c (c : UInt8) (l : List UInt8) : (l.dropWhile (· != c) = [] → Lib.index l [c] = -1) ∧ (l.dropWhile (· != c) ≠ [] → Lib.index l [c] = ((l.takeWhile (· != c)).length : Int)) := by
  induction l with
  | nil => exact ⟨fun _ => rfl, fun h => absurd rfl h⟩
  | cons b l ih =>
    unfold Lib.index
    by_cases h : b = c
    · subst h
      rw [List.dropWhile_cons_of_neg (by simp), List.takeWhile_cons_of_neg (by simp)]
      exact ⟨fun h => (by cases h), fun _ => by simp [List.isPrefixOf]⟩
    · have h2 : (b != c) = true := by simpa using h
      rw [List.dropWhile_cons_of_pos (p := fun x => x != c) h2, List.takeWhile_cons_of_pos (p := fun x => x != c) h2]
      have h3 : List.isPrefixOf [c] (b :: l) = false := by
        simp only [List.isPrefixOf, Bool.and_true]
        exact beq_eq_false_iff_ne.2 (fun e => h e.symm)
      rw [h3]
      constructor
      · intro hd
        rw [ih.1 hd]; decide
      · intro hd
        rw [ih.2 hd]
        have : ¬ ((((l.takeWhile (· != c)).length : Int) == -1) = true) := by simp
        rw [if_neg (by decide), if_neg this, List.length_cons]
        omega
theorem cut_c (c : UInt8) (l : List UInt8) : Lib.cut l [c] = cutC c l := by
  unfold Lib.cut cutC
  have hi := index_c c l
  have ht : l.takeWhile (· != c) ++ l.dropWhile (· != c) = l := List.takeWhile_append_dropWhile
  by_cases hd : l.dropWhile (· != c) = []
  · rw [hi.1 hd, if_neg (by omega), hd]
    rw [hd, List.append_nil] at ht
    rw [ht]; rfl
  · rw [hi.2 hd, if_pos (by omega)]
    have e1 := @List.take_left _ (l.takeWhile (· != c)) (l.dropWhile (· != c))
    have e2 := @List.drop_left _ (l.takeWhile (· != c)) (l.dropWhile (· != c))
    rw [ht] at e1 e2
    have e3 : l.drop ((l.takeWhile (· != c)).length + ([c] : List UInt8).length) = (l.dropWhile (· != c)).tail := by
      rw [← List.drop_drop, e2]
      cases l.dropWhile (· != c) <;> rfl
    rw [Int.toNat_natCast, e1, e3]
    simp [hd]
theorem X93_c {k : Nat} (c : UInt8) (l : List UInt8) (h : l.length ≤ 20000) : X93 (k + 1) l [c] = some (cutC c l) := by
  rw [X93, decide_eq_true (by omega), cond_true, cut_c]
/-- Ahead of the first such byte is none. -/
theorem cutC_at (c : UInt8) (w q : List UInt8) (h : ∀ x ∈ w, x ≠ c) : cutC c (w ++ c :: q) = (w, q, true) := by
  have h2 : ∀ x ∈ w, (x != c) = true := fun x hx => bne_iff_ne.2 (h x hx)
  unfold cutC
  rw [List.takeWhile_append_of_pos h2, List.dropWhile_append_of_pos h2]
  simp
theorem cutC_len (c : UInt8) (l : List UInt8) : (cutC c l).1.length ≤ l.length ∧ (cutC c l).2.1.length ≤ l.length ∧ ((cutC c l).2.2 = true → (cutC c l).2.1.length + 1 ≤ l.length) := by
  have h1 : (l.takeWhile (· != c)).length ≤ l.length := (List.takeWhile_sublist _).length_le
  have h2 : (l.dropWhile (· != c)).length ≤ l.length := (List.dropWhile_sublist _).length_le
  refine ⟨h1, ?_, fun h => ?_⟩
  · show ((l.dropWhile (· != c)).tail).length ≤ _
    rw [List.length_tail]; omega
  · show ((l.dropWhile (· != c)).tail).length + 1 ≤ _
    have h3 : (l.dropWhile (· != c) != []) = true := h
    have h4 : l.dropWhile (· != c) ≠ [] := by simpa using h3
    have := List.length_pos_iff.2 h4
    rw [List.length_tail]; omega
/-- The bytes of a number's text: a sign, digits, a point. -/
def isNb (c : UInt8) : Bool := isDg c || c == 45 || c == 46
theorem isNb_ne {c : UInt8} (h : isNb c = true) : c ≠ 40 ∧ c ≠ 41 ∧ c ≠ 44 := by
  refine ⟨?_, ?_, ?_⟩ <;> (rintro rfl; revert h; decide)
theorem textS_nb (a : Int) (h : isFix a = true) : ∀ c ∈ textS a, isNb c = true := by
  have dg : ∀ (w : List UInt8), w.all isDg = true → ∀ c ∈ w, isNb c = true := fun w hw c hc => by
    have := List.all_eq_true.1 hw c hc
    unfold isNb; rw [this]; rfl
  have sgn : ∀ c ∈ sgb a, isNb c = true := fun c hc => by
    unfold sgb at hc
    split at hc
    · simp at hc; subst hc; decide
    · cases hc
  obtain ⟨d1, d2⟩ := dec_all (a.natAbs / 65536)
  intro c hc
  rcases textS_is a with ⟨h0, e⟩ | ⟨h0, m, m1, m5, e, hg, _⟩
  · rw [e, List.append_nil, List.mem_append] at hc
    rcases hc with hc | hc
    · exact sgn c hc
    · exact dg _ d1 c hc
  · obtain ⟨g1, g2⟩ := digits_lt _ m (by omega) hg
    obtain ⟨p1, p2, p3⟩ := padded_ok _ m g1 m1
    rw [e, List.mem_append, List.mem_append, List.mem_cons] at hc
    rcases hc with hc | hc | hc | hc
    · exact sgn c hc
    · exact dg _ d1 c hc
    · subst hc; decide
    · exact dg _ p1 c hc
theorem txt_nb (a : Int) : ∀ c ∈ txt a, isNb c = true := by
  unfold txt
  split
  · rename_i h; exact textS_nb a h
  · intro c hc; cases hc
theorem trimP_app (a b : List UInt8) : trimP (b ++ a) b = a := by
  unfold trimP
  rw [List.take_left, if_pos rfl, List.drop_left]
theorem parse_txt (a : Int) (h : isFix a = true) : parseS (txt a) = (a, 0) := by
  unfold txt; rw [if_pos h]; exact parse_textS a h
/-- A point's text read back: inside of the brackets. -/
theorem cut_pt (a b : Int) (r : List UInt8) : cutC 41 (txt a ++ 44 :: (txt b ++ 41 :: r)) = (txt a ++ 44 :: txt b, r, true) := by
  have := cutC_at 41 (txt a ++ 44 :: txt b) r (fun x hx => by
    rw [List.mem_append, List.mem_cons] at hx
    rcases hx with hx | hx | hx
    · exact (isNb_ne (txt_nb a x hx)).2.1
    · subst hx; decide
    · exact (isNb_ne (txt_nb b x hx)).2.1)
  rw [← this]; simp
theorem cut_comma (a b : Int) : cutC 44 (txt a ++ 44 :: txt b) = (txt a, txt b, true) :=
  cutC_at 44 (txt a) (txt b) (fun x hx => (isNb_ne (txt_nb a x hx)).2.2)
theorem ptS_eq (a b : Int) (r : List UInt8) : ptS a b ++ r = [40] ++ (txt a ++ 44 :: (txt b ++ 41 :: r)) := by
  unfold ptS; simp
end Go.Proofs.YtjfpcgkgdajcfaaGreatDoor

/-
  A path's text, here and in the reference: the same; no condition but the sizes named.
-/
open Go Go.Ev Go.Proofs
namespace Go.Proofs.YtjfpcgkgdajcfaaGreatDoor
set_option linter.unusedSimpArgs false
set_option linter.unusedVariables false
theorem ptS_len (a b : Int) : 5 - 2 ≤ (ptS a b).length ∧ (ptS a b).length ≤ 43 := by
  have ha := txt_len a
  have hb := txt_len b
  unfold ptS
  simp only [List.length_append, List.length_cons, List.length_nil]
  omega
/-- The text of a point of a list. -/
def ptQ (l : List (Int × Int)) (i : Nat) : List UInt8 := ptS (l.getD i (0, 0)).1 (l.getD i (0, 0)).2
theorem ptQ_len (l : List (Int × Int)) (i : Nat) : (ptQ l i).length ≤ 43 := (ptS_len _ _).2
def segT (l : List (Int × Int)) (c : Bool) (q : Nat) : List UInt8 :=
  (((([46, 46, 99, 111, 110, 116, 114, 111, 108, 115, 32] : List UInt8) ++ ptQ l ((3 * q + 1) % l.length)) ++ ([32, 97, 110, 100, 32] : List UInt8)) ++ ptQ l ((3 * q + 2) % l.length)) ++ ([46, 46] : List UInt8) ++
    (bif c && decide (q + 1 = l.length / 3) then ([99, 121, 99, 108, 101] : List UInt8) else ptQ l ((3 * q + 3) % l.length))
theorem segT_len (l : List (Int × Int)) (c : Bool) (q : Nat) : (segT l c q).length ≤ 150 := by
  have h1 := ptQ_len l ((3 * q + 1) % l.length)
  have h2 := ptQ_len l ((3 * q + 2) % l.length)
  have h3 := ptQ_len l ((3 * q + 3) % l.length)
  unfold segT
  cases c && decide (q + 1 = l.length / 3) <;> simp only [List.length_append, List.length_cons, List.length_nil, cond_true, cond_false] <;> omega
/-- The texts of segments from one on. -/
def segsT (l : List (Int × Int)) (c : Bool) : Nat → Nat → List UInt8
  | _, 0 => []
  | q, d + 1 => segT l c q ++ segsT l c (q + 1) d
theorem segsT_len (l : List (Int × Int)) (c : Bool) : ∀ d q, (segsT l c q d).length ≤ 150 * d := by
  intro d
  induction d with
  | zero => intro q; simp [segsT]
  | succ d ih =>
    intro q
    have := ih (q + 1)
    have := segT_len l c q
    simp only [segsT, List.length_append]; omega
def textP (l : List (Int × Int)) (c : Bool) : List UInt8 := ptQ l 0 ++ segsT l c 0 (l.length / 3)
theorem ofB_app (a b : List UInt8) : ofBytes a ++ ofBytes b = ofBytes (a ++ b) := by unfold ofBytes; rw [List.map_append]
theorem ofB_len (a : List UInt8) : (ofBytes a).length = a.length := by unfold ofBytes; rw [List.length_map]
theorem isBX (a : List UInt8) : isBytesX (ofBytes a) = true := by
  unfold isBytesX ofBytes
  rw [List.all_map, List.all_eq_true]
  intro c _
  have := c.toNat_lt
  simp only [Function.comp]
  exact decide_eq_true (by omega)
theorem bD (a : List UInt8) : bytesD (ofBytes a) = a := by
  unfold bytesD ofBytes
  rw [List.map_map]
  conv => rhs; rw [← List.map_id a]
  apply List.map_congr_left
  intro c _
  simp [AV.intOf]
section
variable {k : Nat} {l : List (Int × Int)} {c : Bool}
theorem D59_1_eq (a b : List UInt8) (ha : a.length ≤ 1000) (hb : b.length ≤ 100000) : D59_1 (k + 2) a (ofBytes b) = some () := by
  rw [D59_1, ofB_len, ofB_len, room_ok (by omega) (by omega) (by omega), asrt_true]
  rfl
theorem D59_0_eq (a : List UInt8) (ha : a.length ≤ 1000) (h : a ≠ []) : D59_0 (k + 2) a = some () := by
  have h2 : (ofBytes a).isEmpty = false := by
    cases a with
    | nil => exact absurd rfl h
    | cons x a => rfl
  rw [D59_0, ofB_len, room_ok (by simp) (by omega) (by omega), asrt_true, h2]
  rfl
theorem nat_beq (q n : Nat) (hn : 1 ≤ n) (hn2 : n ≤ 100000) : ((q : Int) == w64 ((n : Int) - 1)) = decide (q + 1 = n) := by
  rw [w64_id (by omega) (by omega), Bool.eq_iff_iff]
  simp only [beq_iff_eq, decide_eq_true_eq]
  omega
theorem F17_L1_eq (nl : Bool) (hl : l.length ≤ 605) (hp : 0 < l.length) (hk : k ≤ 20000) : ∀ (d m q : Nat) (acc : List UInt8), q + d = l.length / 3 → d < m → acc.length ≤ 43 + 150 * q →
    F17_L1 (k + 30) nl (l.map encP) c ((l.length / 3 : Nat) : Int) m (q : Int) (ofBytes acc) = some (ofBytes (acc ++ segsT l c q d)) := by
  intro d
  induction d with
  | zero =>
    intro m q acc hq hm ha
    obtain ⟨m, rfl⟩ : ∃ j, m = j + 1 := ⟨m - 1, by omega⟩
    rw [F17_L1, decide_eq_false (by omega), cond_false]
    simp [segsT]
  | succ d ih =>
    intro m q acc hq hm ha
    obtain ⟨m, rfl⟩ : ∃ j, m = j + 1 := ⟨m - 1, by omega⟩
    have h1 := ptQ_len l ((3 * q + 1) % l.length)
    have h2 := ptQ_len l ((3 * q + 2) % l.length)
    have h3 := ptQ_len l ((3 * q + 3) % l.length)
    have e6 : w64 ((q : Int) + 1) = ((q + 1 : Nat) : Int) := by rw [w64_id (by omega) (by omega)]; omega
    have p1 : F60 (k + 30) (sg l q).2.2.1 (sg l q).2.2.2.1 = some (ptQ l ((3 * q + 1) % l.length)) := F60_eq (k := k + 9) _ _
    have p2 : F60 (k + 30) (sg l q).2.2.2.2.1 (sg l q).2.2.2.2.2.1 = some (ptQ l ((3 * q + 2) % l.length)) := F60_eq (k := k + 9) _ _
    have p3 : F60 (k + 30) (sg l q).2.2.2.2.2.2.1 (sg l q).2.2.2.2.2.2.2 = some (ptQ l ((3 * q + 3) % l.length)) := F60_eq (k := k + 9) _ _
    have hstep : ∀ e : List UInt8, segT l c q = (((([46, 46, 99, 111, 110, 116, 114, 111, 108, 115, 32] : List UInt8) ++ ptQ l ((3 * q + 1) % l.length)) ++ ([32, 97, 110, 100, 32] : List UInt8)) ++ ptQ l ((3 * q + 2) % l.length)) ++ ([46, 46] : List UInt8) ++ e →
        F17_L1 (k + 30) nl (l.map encP) c ((l.length / 3 : Nat) : Int) m ((q + 1 : Nat) : Int) (ofBytes ((acc ++ ((((([46, 46, 99, 111, 110, 116, 114, 111, 108, 115, 32] : List UInt8) ++ ptQ l ((3 * q + 1) % l.length)) ++ ([32, 97, 110, 100, 32] : List UInt8)) ++ ptQ l ((3 * q + 2) % l.length)) ++ ([46, 46] : List UInt8))) ++ e)) = some (ofBytes (acc ++ segsT l c q (d + 1))) := fun e he => by
      have hs := segT_len l c q
      rw [List.append_assoc acc, ← he, ih m (q + 1) (acc ++ segT l c q) (by omega) (by omega) (by rw [List.length_append]; omega), List.append_assoc]
      rfl
    rw [F17_L1, decide_eq_true (by omega), cond_true, F62_eq (k := k + 24) nl q (by omega) hp, Option.bind_some, cleanP, asrt_true, p1, Option.bind_some]
    generalize hw1 : ptQ l ((3 * q + 1) % l.length) = w1 at *
    generalize hw2 : ptQ l ((3 * q + 2) % l.length) = w2 at *
    generalize hw3 : ptQ l ((3 * q + 3) % l.length) = w3 at *
    rw [sz (by omega) (by omega), asrt_true, sz (by simp; omega) (by omega), asrt_true, p2, Option.bind_some, sz (by simp; omega) (by omega), asrt_true, sz (by simp; omega) (by omega), asrt_true,
      D59_1_eq (k := k + 28) _ acc (by simp; omega) (by omega), Option.bind_some]
    cases c with
    | false =>
      rw [cond_false, p3, Option.bind_some, ofB_app, D59_1_eq (k := k + 28) _ _ (by omega) (by simp; omega), Option.bind_some, ofB_app, e6]
      exact hstep w3 (by unfold segT; rw [hw1, hw2, hw3]; rfl)
    | true =>
      rw [cond_true, F61_eq (k := k + 29) nl hl, Option.bind_some, nat_beq q _ (by omega) (by omega), e6]
      by_cases hq2 : q + 1 = l.length / 3
      · rw [decide_eq_true hq2, cond_true, ofB_app, D59_1_eq (k := k + 28) _ _ (by simp) (by simp; omega), Option.bind_some, ofB_app]
        exact hstep [99, 121, 99, 108, 101] (by unfold segT; rw [hw1, hw2, decide_eq_true hq2]; rfl)
      · rw [decide_eq_false hq2, cond_false, p3, Option.bind_some, ofB_app, D59_1_eq (k := k + 28) _ _ (by omega) (by simp; omega), Option.bind_some, ofB_app]
        exact hstep w3 (by unfold segT; rw [hw1, hw2, hw3, decide_eq_false hq2]; rfl)
/-- A path's validity, of any length. -/
theorem F29_all (nl : Bool) (hl : l.length ≤ 20000) (hk : 620 ≤ k) : F29 (k + 5) nl (l.map encP) c = some (vld l c) := by
  by_cases h : l.length ≤ 605
  · exact F29_eq nl h hk
  · have hv : vld l c = false := by
      unfold vld
      rw [decide_eq_false (show ¬ l.length ≤ 601 by omega)]; simp
    have e : w64 (((l.length : Nat) : Int).tdiv 3) = ((l.length / 3 : Nat) : Int) := by
      rw [Int.tdiv_eq_ediv_of_nonneg (by omega), w64_id (by omega) (by omega)]; omega
    rw [hv]
    unfold F29 F61
    simp only [List.length_map, tm3, e, cleanP, asrt_true, Option.bind_some]
    rw [decide_eq_true (show (200 : Int) < ((l.length / 3 : Nat) : Int) by omega)]
    cases c with
    | true =>
      rw [decide_eq_false (show ¬ ((l.length : Nat) : Int) < 3 by omega)]
      cases (((l.length % 3 : Nat) : Int) != 0) <;> rfl
    | false => cases (((l.length % 3 : Nat) : Int) != 1) <;> rfl
theorem F17_eq (nl : Bool) (hl : l.length ≤ 20000) (hk : k ≤ 15000) : F17 (k + 1000) nl (l.map encP) c = some (if vld l c = true then (textP l c, 0) else ([], 2)) := by
  rw [F17, F29_all (k := k + 994) nl hl (by omega), Option.bind_some, cleanP, asrt_true]
  cases hv : vld l c with
  | false => rfl
  | true =>
    obtain ⟨hp, hn, hc, ho⟩ := vld_pos hv
    have hl6 : l.length ≤ 601 := by
      unfold vld at hv
      simp only [Bool.and_eq_true, decide_eq_true_eq] at hv
      omega
    have hq0 := ptQ_len l 0
    have hne : ptQ l 0 ≠ [] := by
      intro e
      have := (ptS_len (l.getD 0 (0, 0)).1 (l.getD 0 (0, 0)).2).1
      rw [show ptS (l.getD 0 (0, 0)).1 (l.getD 0 (0, 0)).2 = ptQ l 0 from rfl, e] at this
      simp at this
    have p0 : F60 (k + 999) (l.getD 0 (0, 0)).1 (l.getD 0 (0, 0)).2 = some (ptQ l 0) := F60_eq (k := k + 978) _ _
    have hloop := F17_L1_eq (k := k + 969) (c := c) nl (by omega) hp (by omega) (l.length / 3) (k + 999) 0 (ptQ l 0) (by omega) (by omega) (by omega)
    have hne2 : (ofBytes (ptQ l 0 ++ segsT l c 0 (l.length / 3))).isEmpty = false := by
      cases h : ptQ l 0 with
      | nil => exact absurd h hne
      | cons x a => rfl
    have hlen := segsT_len l c (l.length / 3) 0
    rw [cond_true, List.length_map, decide_eq_true (show 0 ≤ (0 : Int) ∧ (0 : Int) < ((l.length : Nat) : Int) by omega), asrt_true, okP, decide_eq_true hp, asrt_true, eI0, eI1, p0, Option.bind_some,
      D59_0_eq (k := k + 997) _ (by omega) hne, Option.bind_some, F61_eq (k := k + 998) nl (by omega), Option.bind_some, List.nil_append]
    rw [show ((0 : Nat) : Int) = 0 from rfl] at hloop
    rw [hloop, Option.bind_some, show fuelO (k + 999) = some () from rfl, Option.bind_some, hne2, cond_false, ofB_len, decide_eq_true (by
      have : (ptQ l 0 ++ segsT l c 0 (l.length / 3)).length ≤ 100000 := by rw [List.length_append]; omega
      exact Nat.lt_of_le_of_lt this (by decide)), asrt_true, isBX, asrt_true, bD]
    rfl
end
end Go.Proofs.YtjfpcgkgdajcfaaGreatDoor

/-
  The reference's text of a path: the same; no condition but the sizes named.
-/
open Go Go.Ev Go.Proofs
namespace Go.Proofs.YtjfpcgkgdajcfaaGreatDoor
set_option linter.unusedSimpArgs false
set_option linter.unusedVariables false
section
variable {k : Nat} {l : List (Int × Int)} {c : Bool}
end
end Go.Proofs.YtjfpcgkgdajcfaaGreatDoor

/-
  The package reads a path's text as the path, and answers for every string; no condition but the sizes named.
-/
open Go Go.Ev Go.Proofs
namespace Go.Proofs.YtjfpcgkgdajcfaaGreatDoor
set_option linter.unusedSimpArgs false
set_option linter.unusedVariables false
theorem trimP_len (a b : List UInt8) : (trimP a b).length ≤ a.length := by
  unfold trimP
  split
  · rw [List.length_drop]; omega
  · omega
/-- A point with which a string begins, as the package reads it. -/
def ptP (s : List UInt8) : Int × Int × List UInt8 × Bool :=
  ((parseS (cutC 44 (cutC 41 (trimP s [40])).1).1).1, (parseS (cutC 44 (cutC 41 (trimP s [40])).1).2.1).1, (cutC 41 (trimP s [40])).2.1,
    (cutC 41 (trimP s [40])).2.2 && ((cutC 44 (cutC 41 (trimP s [40])).1).2.2 && (((parseS (cutC 44 (cutC 41 (trimP s [40])).1).1).2 == 0) && ((parseS (cutC 44 (cutC 41 (trimP s [40])).1).2.1).2 == 0))))
theorem ptP_len (s : List UInt8) : (ptP s).2.2.1.length ≤ s.length ∧ ((ptP s).2.2.2 = true → (ptP s).2.2.1.length + 1 ≤ s.length) := by
  have h1 := trimP_len s [40]
  obtain ⟨_, h2, h3⟩ := cutC_len 41 (trimP s [40])
  unfold ptP
  simp only
  refine ⟨by omega, fun h => ?_⟩
  rw [Bool.and_eq_true] at h
  have := h3 h.1
  omega
section
variable {k : Nat}
theorem F66_eq (s : List UInt8) (hs : s.length ≤ 10000) : F66 (k + 24) s = some (ptP s) := by
  have h1 := trimP_len s [40]
  obtain ⟨h2, _, _⟩ := cutC_len 41 (trimP s [40])
  obtain ⟨h3, h4, _⟩ := cutC_len 44 (cutC 41 (trimP s [40])).1
  rw [F66, F67_eq (k := k + 20), Option.bind_some, X93_c (k := k + 22) 41 _ (by omega), Option.bind_some, X93_c (k := k + 22) 44 _ (by omega), Option.bind_some, F94_eq (k := k + 3) _ (by omega), Option.bind_some, F94_eq (k := k + 3) _ (by omega), Option.bind_some]
  unfold ptP
  generalize cutC 41 (trimP s [40]) = u at *
  generalize cutC 44 u.1 = v at *
  generalize parseS v.1 = x
  generalize parseS v.2.1 = y
  cases u.2.2 <;> cases v.2.2 <;> cases (x.2 == 0) <;> rfl
/-- A point's text is read. -/
theorem F66_pt (a b : Int) (r : List UInt8) (ha : isFix a = true) (hb : isFix b = true) (hs : (ptS a b ++ r).length ≤ 20000) : F66 (k + 24) (ptS a b ++ r) = some (a, b, r, true) := by
  have hl1 := txt_len a
  have hl2 := txt_len b
  rw [List.length_append] at hs
  have hp := (ptS_len a b).1
  have e := ptS_eq a b r
  have hlen : (txt a ++ 44 :: (txt b ++ 41 :: r)).length ≤ 20000 := by
    have := congrArg List.length e
    simp only [List.length_append, List.length_cons, List.length_nil] at this hs ⊢
    omega
  rw [F66, F67_eq (k := k + 20), Option.bind_some, e, trimP_app, X93_c (k := k + 22) 41 _ hlen, Option.bind_some, cut_pt, X93_c (k := k + 22) 44 _ (by simp; omega), Option.bind_some, cut_comma, F94_eq (k := k + 3) _ (by simp only; omega), Option.bind_some, F94_eq (k := k + 3) _ (by simp only; omega), Option.bind_some]
  simp only [parse_txt a ha, parse_txt b hb]
  rfl
theorem enc_app2 (pts : List (Int × Int)) (a b c d : Int) : pts.map encP ++ ([(.agg [(.int .i64 a), (.int .i64 b)]), (.agg [(.int .i64 c), (.int .i64 d)])] : List AV) = (pts ++ [(a, b), (c, d)]).map encP := by simp [encP]
theorem enc_app1 (pts : List (Int × Int)) (a b : Int) : pts.map encP ++ ([(.agg [(.int .i64 a), (.int .i64 b)])] : List AV) = (pts ++ [(a, b)]).map encP := by simp [encP]
theorem enc_one (a b : Int) : ([(.agg [(.int .i64 a), (.int .i64 b)])] : List AV) = [(a, b)].map encP := rfl
/-- Reading ends. -/
theorem F19_L1_ex : ∀ (N m : Nat) (s : List UInt8) (o : Bool) (pts : List (Int × Int)), s.length ≤ N → N ≤ 10000 → N + 1 < m → pts.length + 3 * N ≤ 100000 →
    ∃ (o' : Bool) (pts' : List (Int × Int)) (c' : Bool), F19_L1 (k + 30) m s o (pts.map encP) = some (o', pts'.map encP, c') ∧ pts'.length ≤ pts.length + 3 * N + 3 := by
  intro N
  induction N using Nat.strongRecOn with
  | _ N ih =>
    intro m s o pts hs hN hm hp
    obtain ⟨m, rfl⟩ : ∃ j, m = j + 1 := ⟨m - 1, by omega⟩
    rw [F19_L1]
    cases o with
    | false => exact ⟨false, pts, false, rfl, by omega⟩
    | true =>
      rw [cond_true]
      by_cases hn : s = []
      · subst hn
        exact ⟨true, pts, false, rfl, by omega⟩
      · have hn2 : (s != ([] : List UInt8)) = true := by simpa using hn
        rw [hn2, cond_true, F67_eq (k := k + 27), Option.bind_some]
        have t1 := trimP_len s [46, 46, 99, 111, 110, 116, 114, 111, 108, 115, 32]
        rw [F66_eq (k := k + 6) _ (by omega), Option.bind_some]
        obtain ⟨q1, q2⟩ := ptP_len (trimP s [46, 46, 99, 111, 110, 116, 114, 111, 108, 115, 32])
        generalize ptP (trimP s [46, 46, 99, 111, 110, 116, 114, 111, 108, 115, 32]) = u at *
        cases hu : u.2.2.2 with
        | false => exact ⟨false, pts, false, rfl, by omega⟩
        | true =>
          have q2 := q2 hu
          rw [cond_true, F67_eq (k := k + 27), Option.bind_some]
          have t2 := trimP_len u.2.2.1 [32, 97, 110, 100, 32]
          rw [F66_eq (k := k + 6) _ (by omega), Option.bind_some]
          obtain ⟨q3, q4⟩ := ptP_len (trimP u.2.2.1 [32, 97, 110, 100, 32])
          generalize ptP (trimP u.2.2.1 [32, 97, 110, 100, 32]) = v at *
          cases hv : v.2.2.2 with
          | false => exact ⟨false, pts, false, rfl, by omega⟩
          | true =>
            have q4 := q4 hv
            rw [cond_true, List.length_map, room_ok (by omega) (by omega) (by omega), asrt_true, enc_app2]
            cases hc : (v.2.2.1 == ([46, 46, 99, 121, 99, 108, 101] : List UInt8)) with
            | true => exact ⟨true, _, true, rfl, by simp; omega⟩
            | false =>
              rw [cond_false, F67_eq (k := k + 27), Option.bind_some]
              have t3 := trimP_len v.2.2.1 [46, 46]
              rw [F66_eq (k := k + 6) _ (by omega), Option.bind_some]
              obtain ⟨q5, _⟩ := ptP_len (trimP v.2.2.1 [46, 46])
              generalize ptP (trimP v.2.2.1 [46, 46]) = w at *
              rw [List.length_map, room_ok (by simp; omega) (by omega) (by omega), asrt_true, enc_app1]
              obtain ⟨o', pts', c', e1, e2⟩ := ih (N - 2) (by omega) m w.2.2.1 w.2.2.2 (pts ++ [(u.1, u.2.1), (v.1, v.2.1)] ++ [(w.1, w.2.1)]) (by omega) (by omega) (by omega) (by simp; omega)
              refine ⟨o', pts', c', e1, ?_⟩
              simp only [List.length_append, List.length_cons, List.length_nil] at e2
              omega
/-- All points of a list are numbers that can be written. -/
def ptsOk (l : List (Int × Int)) : Prop := ∀ i, isFix (l.getD i (0, 0)).1 = true ∧ isFix (l.getD i (0, 0)).2 = true
theorem plc_fix {l : List (Int × Int)} (h : l.all plc = true) : ptsOk l := by
  intro i
  have key : plc (l.getD i (0, 0)) = true := by
    rw [List.getD_eq_getElem?_getD]
    cases hi : l[i]? with
    | none => rfl
    | some x => exact List.all_eq_true.1 h x (List.mem_of_getElem? hi)
  have := of_decide_eq_true key
  exact ⟨decide_eq_true (by omega), decide_eq_true (by omega)⟩
theorem take_three (l : List (Int × Int)) (q : Nat) (h : 3 * q + 3 < l.length) : l.take (3 * q + 1) ++ [((l.getD (3 * q + 1) (0, 0)).1, (l.getD (3 * q + 1) (0, 0)).2), ((l.getD (3 * q + 2) (0, 0)).1, (l.getD (3 * q + 2) (0, 0)).2)] ++ [((l.getD (3 * q + 3) (0, 0)).1, (l.getD (3 * q + 3) (0, 0)).2)] = l.take (3 * (q + 1) + 1) := by
  have e : ∀ i, i < l.length → l.take i ++ [((l.getD i (0, 0)).1, (l.getD i (0, 0)).2)] = l.take (i + 1) := fun i hi => by
    rw [List.take_succ_eq_append_getElem hi, List.getD_eq_getElem?_getD, List.getElem?_eq_getElem hi]; rfl
  rw [show 3 * (q + 1) + 1 = 3 * q + 3 + 1 by omega, ← e _ h, ← e (3 * q + 2) (by omega), ← e (3 * q + 1) (by omega)]
  simp
theorem take_two (l : List (Int × Int)) (q : Nat) (h : 3 * q + 2 < l.length) : l.take (3 * q + 1) ++ [((l.getD (3 * q + 1) (0, 0)).1, (l.getD (3 * q + 1) (0, 0)).2), ((l.getD (3 * q + 2) (0, 0)).1, (l.getD (3 * q + 2) (0, 0)).2)] = l.take (3 * q + 3) := by
  have e : ∀ i, i < l.length → l.take i ++ [((l.getD i (0, 0)).1, (l.getD i (0, 0)).2)] = l.take (i + 1) := fun i hi => by
    rw [List.take_succ_eq_append_getElem hi, List.getD_eq_getElem?_getD, List.getElem?_eq_getElem hi]; rfl
  rw [show 3 * q + 3 = 3 * q + 2 + 1 by omega, ← e (3 * q + 2) (by omega), ← e (3 * q + 1) (by omega)]
  simp
theorem F19_L1_rt {l : List (Int × Int)} {c : Bool} (hf : ptsOk l) (hc : c = true → l.length % 3 = 0) (ho : c = false → l.length % 3 = 1) (hl : l.length ≤ 605) : ∀ (d m q : Nat), q + d = l.length / 3 → (c = true → 1 ≤ d) → d < m → (segsT l c q d).length ≤ 20000 →
    F19_L1 (k + 30) m (segsT l c q d) true ((l.take (3 * q + 1)).map encP) = some (true, l.map encP, c) := by
  intro d
  induction d with
  | zero =>
    intro m q hq h1 hm _
    obtain ⟨m, rfl⟩ : ∃ j, m = j + 1 := ⟨m - 1, by omega⟩
    cases c with
    | true => have := h1 rfl; omega
    | false =>
      have := ho rfl
      rw [F19_L1, List.take_of_length_le (by omega)]
      rfl
  | succ d ih =>
    intro m q hq h1 hm hlen
    obtain ⟨m, rfl⟩ : ∃ j, m = j + 1 := ⟨m - 1, by omega⟩
    have hq3 : 3 * q + 2 < l.length := by omega
    have m1 : (3 * q + 1) % l.length = 3 * q + 1 := Nat.mod_eq_of_lt (by omega)
    have m2 : (3 * q + 2) % l.length = 3 * q + 2 := Nat.mod_eq_of_lt (by omega)
    have lens : (segT l c q ++ segsT l c (q + 1) d).length ≤ 20000 := hlen
    have es : segsT l c q (d + 1) = ([46, 46, 99, 111, 110, 116, 114, 111, 108, 115, 32] : List UInt8) ++ (ptQ l (3 * q + 1) ++ (([32, 97, 110, 100, 32] : List UInt8) ++ (ptQ l (3 * q + 2) ++ (([46, 46] : List UInt8) ++ ((bif c && decide (q + 1 = l.length / 3) then ([99, 121, 99, 108, 101] : List UInt8) else ptQ l ((3 * q + 3) % l.length)) ++ segsT l c (q + 1) d))))) := by
      show segT l c q ++ segsT l c (q + 1) d = _
      unfold segT
      rw [m1, m2]
      simp only [List.append_assoc]
    have hle : (([46, 46, 99, 111, 110, 116, 114, 111, 108, 115, 32] : List UInt8) ++ (ptQ l (3 * q + 1) ++ (([32, 97, 110, 100, 32] : List UInt8) ++ (ptQ l (3 * q + 2) ++ (([46, 46] : List UInt8) ++ ((bif c && decide (q + 1 = l.length / 3) then ([99, 121, 99, 108, 101] : List UInt8) else ptQ l ((3 * q + 3) % l.length)) ++ segsT l c (q + 1) d)))))).length ≤ 20000 := by rw [← es]; exact hlen
    generalize hX : (bif c && decide (q + 1 = l.length / 3) then ([99, 121, 99, 108, 101] : List UInt8) else ptQ l ((3 * q + 3) % l.length)) ++ segsT l c (q + 1) d = X at *
    simp only [List.length_append, List.length_cons, List.length_nil] at hle
    have f1 := hf (3 * q + 1)
    have f2 := hf (3 * q + 2)
    have f3 := hf (3 * q + 3)
    rw [es, F19_L1, cond_true, show (([46, 46, 99, 111, 110, 116, 114, 111, 108, 115, 32] : List UInt8) ++ (ptQ l (3 * q + 1) ++ (([32, 97, 110, 100, 32] : List UInt8) ++ (ptQ l (3 * q + 2) ++ (([46, 46] : List UInt8) ++ X)))) != ([] : List UInt8)) = true from rfl, cond_true, F67_eq (k := k + 27), Option.bind_some, trimP_app]
    rw [show ptQ l (3 * q + 1) = ptS (l.getD (3 * q + 1) (0, 0)).1 (l.getD (3 * q + 1) (0, 0)).2 from rfl, F66_pt (k := k + 6) _ _ _ f1.1 f1.2 (by
      simp only [List.length_append, List.length_cons, List.length_nil, ptQ] at hle ⊢; omega), Option.bind_some, cond_true, F67_eq (k := k + 27), Option.bind_some, trimP_app]
    rw [show ptQ l (3 * q + 2) = ptS (l.getD (3 * q + 2) (0, 0)).1 (l.getD (3 * q + 2) (0, 0)).2 from rfl, F66_pt (k := k + 6) _ _ _ f2.1 f2.2 (by
      simp only [List.length_append, List.length_cons, List.length_nil, ptQ] at hle ⊢; omega), Option.bind_some, cond_true, List.length_map, room_ok (by rw [List.length_take]; omega) (by omega) (by omega), asrt_true, enc_app2, take_two l q hq3]
    by_cases hlast : (c && decide (q + 1 = l.length / 3)) = true
    · rw [hlast, cond_true] at hX
      rw [Bool.and_eq_true, decide_eq_true_eq] at hlast
      have hd : d = 0 := by omega
      subst hd
      have hX2 : X = ([99, 121, 99, 108, 101] : List UInt8) := by rw [← hX]; rfl
      have hc3 := hc hlast.1
      rw [hX2, List.take_of_length_le (by omega), hlast.1]
      rfl
    · have hcf : (c && decide (q + 1 = l.length / 3)) = false := by simpa using hlast
      have h33 : 3 * q + 3 < l.length := by
        cases c with
        | false => have := ho rfl; omega
        | true =>
          have := hc rfl
          have : q + 1 ≠ l.length / 3 := by simpa using hcf
          omega
      rw [hcf, cond_false, Nat.mod_eq_of_lt h33] at hX
      have hne : (([46, 46] : List UInt8) ++ X == ([46, 46, 99, 121, 99, 108, 101] : List UInt8)) = false := by
        rw [← hX]
        unfold ptQ ptS
        simp only [List.append_assoc]
        rfl
      have hX3 : X.length ≤ 20000 := by omega
      rw [hne, cond_false, F67_eq (k := k + 27), Option.bind_some, trimP_app, ← hX, show ptQ l (3 * q + 3) = ptS (l.getD (3 * q + 3) (0, 0)).1 (l.getD (3 * q + 3) (0, 0)).2 from rfl, F66_pt (k := k + 6) _ _ _ f3.1 f3.2 (by
        rw [← hX] at hX3; exact hX3), Option.bind_some, List.length_map, room_ok (by rw [List.length_take]; omega) (by omega) (by omega), asrt_true, enc_app1, ← take_two l q hq3, take_three l q h33]
      refine ih m (q + 1) (by omega) (fun hct => ?_) (by omega) ?_
      · rw [hct, Bool.true_and, decide_eq_false_iff_not] at hcf; omega
      · rw [List.length_append] at lens; omega
/-- What the package reads: the path whose text it is, or nothing. -/
theorem F19_yes {l : List (Int × Int)} {c : Bool} (hv : vld l c = true) (hs : (textP l c).length ≤ 20000) (hk : k ≤ 13000) : F19 (k + 1001) (textP l c) = some (false, l.map encP, c, 0) := by
  obtain ⟨hp, hn, hc, ho⟩ := vld_pos hv
  have hpl : ptsOk l := by
    unfold vld at hv
    rw [Bool.and_eq_true] at hv
    exact plc_fix hv.2
  have h0 := hpl 0
  have hs2 : (ptS (l.getD 0 (0, 0)).1 (l.getD 0 (0, 0)).2 ++ segsT l c 0 (l.length / 3)).length ≤ 20000 := hs
  have hloop := F19_L1_rt (k := k + 970) hpl (fun h => (hc h).1) ho (by omega) (l.length / 3) (k + 1000) 0 (by omega) (fun h => by have := hc h; omega) (by omega) (by rw [List.length_append] at hs2; omega)
  have e1 : l.take (3 * 0 + 1) = [l.getD 0 (0, 0)] := by
    cases l with
    | nil => simp at hp
    | cons a l => rfl
  rw [e1] at hloop
  rw [F19, decide_eq_false (show ¬ (20000 : Int) < (((textP l c).length : Nat) : Int) by omega), cond_false]
  have ht : textP l c = ptS (l.getD 0 (0, 0)).1 (l.getD 0 (0, 0)).2 ++ segsT l c 0 (l.length / 3) := rfl
  rw [ht, F66_pt (k := k + 976) _ _ _ h0.1 h0.2 hs2, Option.bind_some, enc_one, hloop, Option.bind_some, F17_eq (k := k) false (by omega) (by omega), Option.bind_some, cleanP, asrt_true, hv, if_pos rfl, ht]
  simp
theorem F19_no {s : List UInt8} (hs : s.length ≤ 3000) (h : ∀ l c, vld l c = true → textP l c ≠ s) (hk : k ≤ 10000) : F19 (k + 4001) s = some (true, [], false, 30) := by
  rw [F19, decide_eq_false (show ¬ (20000 : Int) < ((s.length : Nat) : Int) by omega), cond_false, F66_eq (k := k + 3976) s (by omega), Option.bind_some, enc_one]
  obtain ⟨q1, _⟩ := ptP_len s
  obtain ⟨o', pts', c', e1, e2⟩ := F19_L1_ex (k := k + 3970) s.length (k + 4000) (ptP s).2.2.1 (ptP s).2.2.2 [((ptP s).1, (ptP s).2.1)] q1 (by omega) (by omega) (by simp; omega)
  rw [e1, Option.bind_some, F17_eq (k := k + 3000) false (by simp at e2; omega) (by omega), Option.bind_some, cleanP, asrt_true]
  cases o' with
  | false => rfl
  | true =>
    cases hv : vld pts' c' with
    | false => rfl
    | true =>
      have hne : (textP pts' c' != s) = true := by simpa using h pts' c' hv
      simp [hne]
end
end Go.Proofs.YtjfpcgkgdajcfaaGreatDoor

/-
  The reference's reading of a number, as it stands at this seat: the same as the package's; no condition but the sizes named.
-/
open Go Go.Ev Go.Proofs
namespace Go.Proofs.YtjfpcgkgdajcfaaGreatDoor
set_option linter.unusedSimpArgs false
set_option linter.unusedVariables false
section
variable {k : Nat} (a : List UInt8)
end
section
variable {k : Nat}
end
end Go.Proofs.YtjfpcgkgdajcfaaGreatDoor

/-
  The reference reads a path's text as the path, and answers for every string; no condition but the sizes named.
-/
open Go Go.Ev Go.Proofs
namespace Go.Proofs.YtjfpcgkgdajcfaaGreatDoor
set_option linter.unusedSimpArgs false
set_option linter.unusedVariables false
section
variable {k : Nat}
end
end Go.Proofs.YtjfpcgkgdajcfaaGreatDoor

/-
  The reference's Parse, and the law PathsTexts, plainly; no condition but the sizes named.
-/
open Go Go.Ev Go.Proofs
namespace Go.Proofs.YtjfpcgkgdajcfaaGreatDoor
set_option linter.unusedSimpArgs false
set_option linter.unusedVariables false
section
variable {k : Nat}
end
theorem awake_13 : F13 13000 = some true := by kernel_rfl
end Go.Proofs.YtjfpcgkgdajcfaaGreatDoor
