/-
  PathsSubs, plainly: Sub is the reference's; no condition but the sizes named.
-/
import Derived.Test.YtjfpcgkgdajcfaaGreatDoorPureSf
open Go Go.Ev
namespace Go.Proofs.YtjfpcgkgdajcfaaGreatDoor
set_option linter.unusedSimpArgs false
set_option linter.unusedVariables false
section
variable {l : List (Int × Int)} {c : Bool} {k : Nat}
theorem plI_id {p : Nat} (hv : vld l c = true) (h1 : p ≤ l.length / 3 * 65536) (h2 : c = true → p < l.length / 3 * 65536) : plI l c (p : Int) = (p : Int) := by
  have hM : M l = ((l.length / 3 * 65536 : Nat) : Int) := by unfold M; omega
  unfold plI
  cases c with
  | true =>
    have := h2 rfl
    rw [cond_true, Int.emod_eq_of_lt (by omega) (by omega)]
  | false =>
    rw [cond_false]; unfold mx2 mn2; split <;> split <;> omega
/-- The point at a place, here and in the reference. -/
theorem pnt_K (nl : Bool) (hl : l.length ≤ 605) (hv : vld l c = true) {p : Nat} (h1 : p ≤ l.length / 3 * 65536) (h2 : c = true → p < l.length / 3 * 65536) {K : Nat} (hK : 700 ≤ K) :
    F30 K nl (l.map encP) c (p : Int) = some ((pnt l p).1, (pnt l p).2, 0) ∧ F31 K nl (l.map encP) c (p : Int) = some ((pnt l p).1, (pnt l p).2, 0) := by
  obtain ⟨j, rfl⟩ : ∃ j, K = j + 642 := ⟨K - 642, by omega⟩
  have hpl := plI_id hv h1 h2
  have hn := (vld_pos hv).2.1
  have f30 := F30_v (l := l) (c := c) nl (p : Int) hl hv hpl h1 h2
  obtain ⟨s, hs⟩ := near_eq (l := l) (c := c) nl (p : Int) (by omega) (by omega) hl hv
  refine ⟨f30 (j + 1), ?_⟩
  have e := f30 j
  rw [F30] at e
  simp only [(hs j).1, Option.bind_some, cleanP, asrt_true, Option.some.injEq, Prod.mk.injEq] at e
  have f21 := F21_eq (l := l) (c := c) (k := j + 638) nl hl (by omega)
  have f76 := (hs j).2
  rw [F31, F75]
  show Option.bind (Option.bind (F21 (j + 638 + 2) nl (l.map encP) c) _) _ = _
  rw [f21, Option.bind_some, cleanP, asrt_true, hv, cond_true]
  show Option.bind (Option.bind (F76 (j + 640) nl (l.map encP) c (p : Int)) _) _ = _
  rw [f76, Option.bind_some, Option.bind_some, asrt_true, e.1, e.2.1]
theorem F29_K (nl : Bool) (hl : l.length ≤ 605) {K : Nat} (hK : 700 ≤ K) : F29 K nl (l.map encP) c = some (vld l c) := by
  obtain ⟨j, rfl⟩ : ∃ j, K = j + 5 := ⟨K - 5, by omega⟩
  exact F29_eq nl hl (by omega)
theorem F21_K (nl : Bool) (hl : l.length ≤ 605) {K : Nat} (hK : 700 ≤ K) : F21 K nl (l.map encP) c = some (vld l c) := by
  obtain ⟨j, rfl⟩ : ∃ j, K = j + 2 := ⟨K - 2, by omega⟩
  exact F21_eq nl hl (by omega)
theorem F61_K (nl : Bool) (hl : l.length ≤ 605) {K : Nat} (hK : 700 ≤ K) : F61 K nl (l.map encP) c = some ((l.length / 3 : Nat) : Int) := by
  obtain ⟨j, rfl⟩ : ∃ j, K = j + 1 := ⟨K - 1, by omega⟩
  exact F61_eq nl hl
theorem F77_K (nl : Bool) (a : Int) (hv : vld l c = true) {K : Nat} (hK : 700 ≤ K) : F77 K nl (l.map encP) c a = some (plI l c a) := by
  obtain ⟨j, rfl⟩ : ∃ j, K = j + 2 := ⟨K - 2, by omega⟩
  exact F77_eq nl a hv
theorem F79_K (nl : Bool) (a : Int) (ha : -9223372036854775808 ≤ a) (hb : a ≤ 9223372036854775807) (hv : vld l c = true) {K : Nat} (hK : 700 ≤ K) : F79 K nl (l.map encP) c a = some (plI l c a) := by
  obtain ⟨j, rfl⟩ : ∃ j, K = j + 2 := ⟨K - 2, by omega⟩
  exact F79_eq nl a ha hb hv
theorem F88_K (x : Int) (h1 : -4000000000000 ≤ x) (h2 : x ≤ 4000000000000) {K : Nat} (hK : 700 ≤ K) : F88 K x 65536 = some (x / 65536) := by
  obtain ⟨j, rfl⟩ : ∃ j, K = j + 1 := ⟨K - 1, by omega⟩
  exact F88_u x h1 h2
theorem lim1_aux (a b : Int) (h1 : 0 ≤ a) (h2 : a ≤ 3000000000000) (h3 : 0 ≤ b) (h4 : b ≤ 3000000000000) : w64 (w64 ((w64 (w64 (a + 65536) - 1)).tdiv 65536) - b) = (a + 65535) / 65536 - b := by
  rw [w64_id (x := a + 65536) (by omega) (by omega), w64_id (x := a + 65536 - 1) (by omega) (by omega), Int.tdiv_eq_ediv_of_nonneg (by omega), show a + 65536 - 1 = a + 65535 by omega]
  have h5 : 0 ≤ (a + 65535) / 65536 := by omega
  have h6 : (a + 65535) / 65536 ≤ 3000000000000 := by omega
  rw [w64_id (x := (a + 65535) / 65536) (by omega) (by omega), w64_id (by omega) (by omega)]
/-- The part of a path, where it is not turned. -/
theorem sub_up (nl : Bool) (hl : l.length ≤ 605) (hv : vld l c = true) {s t : Int} (hst : s ≤ t) (hs : -1099511627776 ≤ s) (ht : t ≤ 1099511627776) {K : Nat} (hK : 1400 ≤ K) :
    ∃ (b : Bool) (q : List (Int × Int)) (e : Int), F40 (K + 1) nl (l.map encP) c s t = some (b, q.map encP, false, e) ∧ F41 (K + 1) nl (l.map encP) c s t = some (b, q.map encP, false, e) ∧ (e = 0 → b = false) ∧ q.length ≤ 605 := by
  obtain ⟨hp, hn, hc, ho⟩ := vld_pos hv
  obtain ⟨lo, hlo, l1, l2⟩ := plI_nat (l := l) (c := c) s hv
  have hlo2 : plI l c (lo : Int) = (lo : Int) := plI_id hv l1 l2
  obtain ⟨hi, hhi⟩ : ∃ hi : Nat, (c = true → (hi : Int) = lo + (t - s)) ∧ (c = false → plI l c t = (hi : Int) ∧ hi ≤ l.length / 3 * 65536 ∧ lo ≤ hi) := by
    cases c with
    | true => exact ⟨lo + (t - s).toNat, fun _ => by omega, fun h => by cases h⟩
    | false =>
      obtain ⟨hi, h1, h2, _⟩ := plI_nat (l := l) (c := false) t hv
      refine ⟨hi, (fun h => by cases h), fun _ => ⟨h1, h2, ?_⟩⟩
      unfold plI at hlo h1
      rw [cond_false] at hlo h1
      have : mn2 (mx2 s 0) (M l) ≤ mn2 (mx2 t 0) (M l) := by unfold mn2 mx2; repeat' split <;> omega
      omega
  have hlohi : lo ≤ hi := by
    cases c with
    | true => have := hhi.1 rfl; omega
    | false => exact (hhi.2 rfl).2.2
  have f29 := F29_K (l := l) (c := c) nl hl (show 700 ≤ K by omega)
  have f21 := F21_K (l := l) (c := c) nl hl (show 700 ≤ K by omega)
  have f61 := F61_K (l := l) (c := c) nl hl (show 700 ≤ K by omega)
  have f77 := F77_K (l := l) (c := c) nl s hv (show 700 ≤ K by omega)
  have f77t := F77_K (l := l) (c := c) nl t hv (show 700 ≤ K by omega)
  have f79 := F79_K (l := l) (c := c) nl s (by omega) (by omega) hv (show 700 ≤ K by omega)
  have f79t := F79_K (l := l) (c := c) nl t (by omega) (by omega) hv (show 700 ≤ K by omega)
  obtain ⟨f30, f31⟩ := pnt_K (l := l) (c := c) nl hl hv l1 l2 (show 700 ≤ K by omega)
  have f88 := F88_K (lo : Int) (by omega) (by omega) (show 700 ≤ K by omega)
  rw [hv] at f29 f21
  rw [hlo] at f77 f79
  have c1 : decide (mn2 s t < -1099511627776) = false := decide_eq_false (by unfold mn2; split <;> omega)
  have c2 : decide (1099511627776 < mx2 s t) = false := decide_eq_false (by unfold mx2; split <;> omega)
  have c3 : decide (t < s) = false := decide_eq_false (by omega)
  have d1 : decide (s < -1099511627776) = false := decide_eq_false (by omega)
  have d2 : decide (1099511627776 < s) = false := decide_eq_false (by omega)
  have d3 : decide (t < -1099511627776) = false := decide_eq_false (by omega)
  have d4 : decide (1099511627776 < t) = false := decide_eq_false (by omega)
  have hib : (hi : Int) ≤ 3000000000000 := by
    cases c with
    | true => have := hhi.1 rfl; omega
    | false => have := (hhi.2 rfl).2.1; omega
  have f88h := F88_K (-(hi : Int)) (by omega) (by omega) (show 700 ≤ K by omega)
  have hne0 : w64 (0 - (hi : Int)) = -(hi : Int) := by rw [w64_id (by omega) (by omega)]; omega
  have hdown : (-(hi : Int)) / 65536 = -(((hi + 65535) / 65536 : Nat) : Int) := by omega
  have hdl : (lo : Int) / 65536 = ((lo / 65536 : Nat) : Int) := by omega
  have dlo : w64 ((lo : Int).tdiv 65536) = ((lo / 65536 : Nat) : Int) := by
    rw [Int.tdiv_eq_ediv_of_nonneg (by omega), w64_id (by omega) (by omega)]; omega
  rw [hdown] at f88h
  rw [hdl] at f88
  have x1 : c = true → w64 (w64 ((lo : Int) + t) - s) = (hi : Int) := fun h => by
    have := hhi.1 h
    rw [w64_id (x := (lo : Int) + t) (by omega) (by omega), w64_id (by omega) (by omega)]; omega
  have x2 : c = true → w64 (w64 (t - s) + (lo : Int)) = (hi : Int) := fun h => by
    have := hhi.1 h
    rw [w64_id (x := t - s) (by omega) (by omega), w64_id (by omega) (by omega)]; omega
  -- how many segments
  have lim1 : decide ((200 : Int) < w64 (w64 ((w64 (w64 ((hi : Int) + 65536) - 1)).tdiv 65536) - ((lo / 65536 : Nat) : Int))) = decide (200 < (hi + 65535) / 65536 - lo / 65536) := by
    have := lim1_aux (hi : Int) ((lo / 65536 : Nat) : Int) (by omega) hib (by omega) (by omega)
    have e2 : ((hi : Int) + 65535) / 65536 = (((hi + 65535) / 65536 : Nat) : Int) := by omega
    rw [e2] at this
    rw [this, Bool.eq_iff_iff, decide_eq_true_eq, decide_eq_true_eq]; omega
  have lim2 : decide ((200 : Int) < w64 (w64 (0 - -(((hi + 65535) / 65536 : Nat) : Int)) - ((lo / 65536 : Nat) : Int))) = decide (200 < (hi + 65535) / 65536 - lo / 65536) := by
    have : w64 (w64 (0 - -(((hi + 65535) / 65536 : Nat) : Int)) - ((lo / 65536 : Nat) : Int)) = (((hi + 65535) / 65536 : Nat) : Int) - ((lo / 65536 : Nat) : Int) := by
      rw [w64_id (x := 0 - -(((hi + 65535) / 65536 : Nat) : Int)) (by omega) (by omega), w64_id (by omega) (by omega)]
      omega
    rw [this, Bool.eq_iff_iff, decide_eq_true_eq, decide_eq_true_eq]; omega
  by_cases hEq : lo = hi
  · -- one point
    subst hEq
    have z1 : decide ((lo : Int) < (lo : Int)) = false := decide_eq_false (by omega)
    have z2 : decide (200 < (lo + 65535) / 65536 - lo / 65536) = false := decide_eq_false (by omega)
    refine ⟨false, [pnt l lo], 0, ?_, ?_, fun _ => rfl, by simp⟩
    · rw [F40]
      cases c with
      | true => simp only [f29, Option.bind_some, cleanP, asrt_true, cond_true, cond_false, c1, c2, c3, f61, f77, x1 rfl, z1, beq_self_eq_true, f30]; rfl
      | false =>
        have := (hhi.2 rfl).1
        rw [this] at f77t
        simp only [f29, Option.bind_some, cleanP, asrt_true, cond_true, cond_false, c1, c2, c3, f61, f77, f77t, z1, beq_self_eq_true, f30]; rfl
    · rw [F41]
      cases c with
      | true => simp only [f21, Option.bind_some, cleanP, asrt_true, cond_true, cond_false, d1, d2, d3, d4, c3, f79, x2 rfl, hne0, f88h, f88, lim2, z2, f31, beq_self_eq_true]; rfl
      | false =>
        have := (hhi.2 rfl).1
        rw [this] at f79t
        simp only [f21, Option.bind_some, cleanP, asrt_true, cond_true, cond_false, d1, d2, d3, d4, c3, f79, f79t, hne0, f88h, f88, lim2, z2, f31, beq_self_eq_true]; rfl
  · have z1 : decide ((lo : Int) < (hi : Int)) = true := decide_eq_true (by omega)
    have z3 : ((lo : Int) == (hi : Int)) = false := by rw [beq_eq_false_iff_ne]; omega
    by_cases hlim : 200 < (hi + 65535) / 65536 - lo / 65536
    · have z2 : decide (200 < (hi + 65535) / 65536 - lo / 65536) = true := decide_eq_true hlim
      refine ⟨true, [], 3, ?_, ?_, (fun h => by cases h), by simp⟩
      · rw [F40]
        cases c with
        | true => simp only [f29, Option.bind_some, cleanP, asrt_true, cond_true, cond_false, c1, c2, c3, f61, f77, x1 rfl, z1, dlo, lim1, z2]; rfl
        | false =>
          have := (hhi.2 rfl).1
          rw [this] at f77t
          simp only [f29, Option.bind_some, cleanP, asrt_true, cond_true, cond_false, c1, c2, c3, f61, f77, f77t, z1, dlo, lim1, z2]; rfl
      · rw [F41]
        cases c with
        | true => simp only [f21, Option.bind_some, cleanP, asrt_true, cond_true, cond_false, d1, d2, d3, d4, c3, f79, x2 rfl, hne0, f88h, f88, lim2, z2]; rfl
        | false =>
          have := (hhi.2 rfl).1
          rw [this] at f79t
          simp only [f21, Option.bind_some, cleanP, asrt_true, cond_true, cond_false, d1, d2, d3, d4, c3, f79, f79t, hne0, f88h, f88, lim2, z2]; rfl
    · have z2 : decide (200 < (hi + 65535) / 65536 - lo / 65536) = false := decide_eq_false hlim
      have hN0 : 0 < l.length / 3 := by
        cases c with
        | true => have := hc rfl; omega
        | false => have := (hhi.2 rfl).2.1; omega
      have hr : 0 < (hi + 65535) / 65536 - lo / 65536 := by omega
      have hlen := runA_len0 (l := l) (l.length / 3) lo hi ((hi + 65535) / 65536 - lo / 65536) (lo / 65536) hr
      obtain ⟨j, rfl⟩ : ∃ j, K = j + 6 := ⟨K - 6, by omega⟩
      have hdt : decide (0 + (runA l (l.length / 3) lo hi ((hi + 65535) / 65536 - lo / 65536) (lo / 65536) []).length ≤ ((runA l (l.length / 3) lo hi ((hi + 65535) / 65536 - lo / 65536) (lo / 65536) []).map encP).length) = true := decide_eq_true (by simp)
      have htk : List.take (runA l (l.length / 3) lo hi ((hi + 65535) / 65536 - lo / 65536) (lo / 65536) []).length (List.drop 0 ((runA l (l.length / 3) lo hi ((hi + 65535) / 65536 - lo / 65536) (lo / 65536) []).map encP)) = (runA l (l.length / 3) lo hi ((hi + 65535) / 65536 - lo / 65536) (lo / 65536) []).map encP := by
        rw [List.drop_zero]; exact List.take_of_length_le (by simp)
      refine ⟨false, runA l (l.length / 3) lo hi ((hi + 65535) / 65536 - lo / 65536) (lo / 65536) [], 0, ?_, ?_, fun _ => rfl, by omega⟩
      · rw [F40]
        cases c with
        | true =>
          have g := F40_L1_g (l := l) (c := true) (k := j) nl (N := l.length / 3) (lo := lo) (hi := hi) rfl hp hN0 (by omega) (by omega) (by omega) (A := s) (B := t) (x1 rfl) ((hi + 65535) / 65536 - lo / 65536) (lo / 65536) (j + 6) true [] (by omega) (by omega) (by simp)
          rw [List.map_nil, if_neg (by omega)] at g
          simp only [f29, Option.bind_some, cleanP, asrt_true, cond_true, cond_false, c1, c2, c3, f61, f77, x1 rfl, z1, z3, dlo, lim1, z2, g]
        | false =>
          have := (hhi.2 rfl).1
          rw [this] at f77t
          have g := F40_L2_g (l := l) (c := false) (k := j) nl (N := l.length / 3) (lo := lo) (hi := hi) rfl hp hN0 (by omega) (by omega) (by omega) ((hi + 65535) / 65536 - lo / 65536) (lo / 65536) (j + 6) true [] (by omega) (by omega) (by simp)
          rw [List.map_nil, if_neg (by omega)] at g
          simp only [f29, Option.bind_some, cleanP, asrt_true, cond_true, cond_false, c1, c2, c3, f61, f77, f77t, z1, z3, dlo, lim1, z2, g]
      · rw [F41]
        cases c with
        | true =>
          have g := F41_L1_f (l := l) (c := true) (k := j) nl (N := l.length / 3) (lo := lo) (hi := hi) rfl hp hN0 (by omega) hl (by omega) (by omega) (A := s) (B := t) (z1 := ((pnt l lo).1, (pnt l lo).2, 0)) (x2 rfl) (by omega) (j + 5) (by omega)
          rw [show j + 5 + 1 = j + 6 from rfl] at g
          simp only [f21, Option.bind_some, cleanP, asrt_true, cond_true, cond_false, d1, d2, d3, d4, c3, f79, x2 rfl, hne0, f88h, f88, lim2, z2, f31, z3, g, Sum.elim_inr, hdt, htk]
        | false =>
          have := (hhi.2 rfl).1
          rw [this] at f79t
          have g := F41_L2_f (l := l) (c := false) (k := j) nl (N := l.length / 3) (lo := lo) (hi := hi) rfl hp hN0 (by omega) hl (by omega) (by omega) (z1 := ((pnt l lo).1, (pnt l lo).2, 0)) (by omega) (j + 5) (by omega)
          rw [show j + 5 + 1 = j + 6 from rfl] at g
          simp only [f21, Option.bind_some, cleanP, asrt_true, cond_true, cond_false, d1, d2, d3, d4, c3, f79, f79t, hne0, f88h, f88, lim2, z2, f31, z3, g, Sum.elim_inr, hdt, htk]
theorem F22_K (hl : l.length ≤ 605) {K : Nat} (hK : 1300 ≤ K) : F22 K false (l.map encP) false = some (if vld l false = true then (false, l.reverse.map encP, false, 0) else (true, [], false, 2)) := by
  obtain ⟨j, rfl⟩ : ∃ j, K = j + 6 := ⟨K - 6, by omega⟩
  exact F22_open l hl (by omega)
theorem F47_K (hl : l.length ≤ 605) {K : Nat} (hK : 1300 ≤ K) : F47 K false (l.map encP) false = some (if vld l false = true then (false, l.reverse.map encP, false, 0) else (true, [], false, 2)) := by
  obtain ⟨j, rfl⟩ : ∃ j, K = j + 3 := ⟨K - 3, by omega⟩
  exact F47_open l hl (by omega)
/-- Sub, here and in the reference. -/
theorem sub_both (nl : Bool) (hl : l.length ≤ 605) (s t : Int) {K : Nat} (hK : 1500 ≤ K) :
    ∃ (b : Bool) (q : List (Int × Int)) (e : Int), F40 (K + 1) nl (l.map encP) c s t = some (b, q.map encP, false, e) ∧ F41 (K + 1) nl (l.map encP) c s t = some (b, q.map encP, false, e) ∧ q.length ≤ 605 := by
  have f29 := F29_K (l := l) (c := c) nl hl (show 700 ≤ K by omega)
  have f21 := F21_K (l := l) (c := c) nl hl (show 700 ≤ K by omega)
  cases hv : vld l c with
  | false =>
    rw [hv] at f29 f21
    refine ⟨true, [], 2, ?_, ?_, by simp⟩
    · rw [F40]; simp only [f29, Option.bind_some, cleanP, asrt_true, cond_false]; rfl
    · rw [F41]; simp only [f21, Option.bind_some, cleanP, asrt_true, cond_false]; rfl
  | true =>
    by_cases hb : (-1099511627776 ≤ s ∧ s ≤ 1099511627776) ∧ (-1099511627776 ≤ t ∧ t ≤ 1099511627776)
    · by_cases hst : s ≤ t
      · obtain ⟨b, q, e, h1, h2, _, h4⟩ := sub_up (l := l) (c := c) nl hl hv hst hb.1.1 hb.2.2 (show 1400 ≤ K by omega)
        exact ⟨b, q, e, h1, h2, h4⟩
      · obtain ⟨j, rfl⟩ : ∃ j, K = j + 1 := ⟨K - 1, by omega⟩
        obtain ⟨b, q, e, h1, h2, h3, h4⟩ := sub_up (l := l) (c := c) nl hl hv (show t ≤ s by omega) hb.2.1 hb.1.2 (show 1400 ≤ j by omega)
        have c1 : decide (mn2 s t < -1099511627776) = false := decide_eq_false (by unfold mn2; split <;> omega)
        have c2 : decide (1099511627776 < mx2 s t) = false := decide_eq_false (by unfold mx2; split <;> omega)
        have c3 : decide (t < s) = true := decide_eq_true (by omega)
        have d1 : decide (s < -1099511627776) = false := decide_eq_false (by omega)
        have d2 : decide (1099511627776 < s) = false := decide_eq_false (by omega)
        have d3 : decide (t < -1099511627776) = false := decide_eq_false (by omega)
        have d4 : decide (1099511627776 < t) = false := decide_eq_false (by omega)
        rw [hv] at f29 f21
        by_cases he : e = 0
        · have hbf := h3 he
          subst he
          subst hbf
          have f22 := F22_K (l := q) h4 (show 1300 ≤ j + 1 by omega)
          have f47 := F47_K (l := q) h4 (show 1300 ≤ j + 1 by omega)
          have e0 : ((0 : Int) != 0) = false := rfl
          cases hq : vld q false with
          | true =>
            rw [hq, if_pos rfl] at f22 f47
            refine ⟨false, q.reverse, 0, ?_, ?_, by rw [List.length_reverse]; exact h4⟩
            · rw [F40]; simp only [f29, Option.bind_some, cleanP, asrt_true, cond_true, cond_false, c1, c2, c3, h1, e0, f22]
            · rw [F41]; simp only [f21, Option.bind_some, cleanP, asrt_true, cond_true, cond_false, d1, d2, d3, d4, c3, h2, e0, f47]
          | false =>
            rw [hq, if_neg (by simp)] at f22 f47
            refine ⟨true, [], 2, ?_, ?_, by simp⟩
            · rw [F40]; simp only [f29, Option.bind_some, cleanP, asrt_true, cond_true, cond_false, c1, c2, c3, h1, e0, f22]; rfl
            · rw [F41]; simp only [f21, Option.bind_some, cleanP, asrt_true, cond_true, cond_false, d1, d2, d3, d4, c3, h2, e0, f47]; rfl
        · have e0 : (e != 0) = true := by simpa using he
          refine ⟨true, [], e, ?_, ?_, by simp⟩
          · rw [F40]; simp only [f29, Option.bind_some, cleanP, asrt_true, cond_true, cond_false, c1, c2, c3, h1, e0]; rfl
          · rw [F41]; simp only [f21, Option.bind_some, cleanP, asrt_true, cond_true, cond_false, d1, d2, d3, d4, c3, h2, e0]; rfl
    · rw [hv] at f29 f21
      refine ⟨true, [], 2, ?_, ?_, by simp⟩
      · rw [F40]
        by_cases a1 : mn2 s t < -1099511627776
        · simp only [f29, Option.bind_some, cleanP, asrt_true, cond_true, decide_eq_true a1]; rfl
        · have a2 : (1099511627776 : Int) < mx2 s t := by
            unfold mn2 at a1
            unfold mx2
            split at a1 <;> split <;> omega
          simp only [f29, Option.bind_some, cleanP, asrt_true, cond_true, cond_false, decide_eq_false a1, decide_eq_true a2]; rfl
      · rw [F41]
        by_cases a1 : s < -1099511627776
        · simp only [f21, Option.bind_some, cleanP, asrt_true, cond_true, decide_eq_true a1]; rfl
        · by_cases a2 : (1099511627776 : Int) < s
          · simp only [f21, Option.bind_some, cleanP, asrt_true, cond_true, cond_false, decide_eq_false a1, decide_eq_true a2]; rfl
          · by_cases a3 : t < -1099511627776
            · simp only [f21, Option.bind_some, cleanP, asrt_true, cond_true, cond_false, decide_eq_false a1, decide_eq_false a2, decide_eq_true a3]; rfl
            · have a4 : (1099511627776 : Int) < t := by omega
              simp only [f21, Option.bind_some, cleanP, asrt_true, cond_true, cond_false, decide_eq_false a1, decide_eq_false a2, decide_eq_false a3, decide_eq_true a4]; rfl
end
/-- The law, plainly. -/
theorem pathsSubs_plain (nl : Bool) (l : List (Int × Int)) (c : Bool) (s t : Int) : F7 2001 nl (l.map encP) c s t = some true := by
  have hA : F13 2000 = some true := awake_ok
  have h24 := F24_eq (l := l) (c := c) (k := 1996) nl
  rw [show 1996 + 4 = 2000 from rfl] at h24
  rw [show (2001 : Nat) = 2000 + 1 from rfl, F7]
  by_cases hl : l.length ≤ 605
  · obtain ⟨b, q, e, h1, h2, h3⟩ := sub_both (l := l) (c := c) nl hl s t (show 1500 ≤ 1999 by omega)
    have h16 := F16_eq (k := 1998) (l := q) (c := false) b b (by omega) (by omega)
    rw [show 1999 + 1 = 2000 from rfl] at h1 h2
    rw [show 1998 + 2 = 2000 from rfl] at h16
    simp only [h24, hl, decide_true, Option.bind_some, cleanP, asrt_true, cond_true, h1, h2, h16, beq_self_eq_true, hA]
  · simp only [h24, hl, decide_false, Option.bind_some, cleanP, asrt_true, cond_false, hA]
end Go.Proofs.YtjfpcgkgdajcfaaGreatDoor
