/-
  PathsSubs: the loops of both, plainly; no condition but the sizes named.
-/
import Derived.Test.YtjfpcgkgdajcfaaGreatDoorPureSub
import Derived.Test.YtjfpcgkgdajcfaaGreatDoorPureRv
open Go Go.Ev
namespace Go.Proofs.YtjfpcgkgdajcfaaGreatDoor
set_option linter.unusedSimpArgs false
set_option linter.unusedVariables false
section
variable {l : List (Int × Int)} {c : Bool} {k : Nat}
theorem F88_u (x : Int) (h1 : -4000000000000 ≤ x) (h2 : x ≤ 4000000000000) : F88 (k + 1) x 65536 = some (x / 65536) := by
  have h0 : decide ((65536 : Int) = 0) = false := by decide
  rw [F88, h0, cond_false]
  rcases tm_small (a := x) (m := 65536) (by omega) with ⟨h, _, h8⟩ | ⟨h, _, h8⟩
  · rw [decide_eq_true h, cond_true, h8, w64_id (x := x / 65536 + 1) (by omega) (by omega), w64_id (by omega) (by omega)]
    congr 1; omega
  · rw [decide_eq_false (show ¬ (x.tmod 65536 < 0) by omega), cond_false, h8, w64_id (by omega) (by omega)]
/-- The piece of a segment between two places; segments go round. -/
def cutN (l : List (Int × Int)) (N lo hi i : Nat) : S8 := cutS (sg l (i % N)) (min (hi - i * 65536) 65536) (lo - i * 65536)
def stepA (l : List (Int × Int)) (N lo hi i : Nat) (acc : List (Int × Int)) : List (Int × Int) := acc ++ (if acc.length = 0 then [p0 (cutN l N lo hi i)] else []) ++ [p1 (cutN l N lo hi i), p2 (cutN l N lo hi i), p3 (cutN l N lo hi i)]
def runA (l : List (Int × Int)) (N lo hi : Nat) : Nat → Nat → List (Int × Int) → List (Int × Int)
  | 0, _, acc => acc
  | r + 1, i, acc => runA l N lo hi r (i + 1) (stepA l N lo hi i acc)
theorem F40_L2_g (nl : Bool) {N lo hi : Nat} (hN : N = l.length / 3) (hp : 0 < l.length) (hN0 : 0 < N) (hN2 : N ≤ 200) (hhi : hi ≤ 40000000) (hlo : lo ≤ 20000000) : ∀ (r i m : Nat) (b : Bool) (acc : List (Int × Int)), i + r = (hi + 65535) / 65536 → r < m → acc.length ≤ 3 * i + 1 →
    F40_L2 (k + 6) nl (l.map encP) c (N : Int) (lo : Int) (hi : Int) m (i : Int) b (acc.map encP) = some (if r = 0 then b else false, (runA l N lo hi r i acc).map encP) := by
  have ee : w64 ((w64 (w64 ((hi : Int) + 65536) - 1)).tdiv 65536) = (((hi + 65535) / 65536 : Nat) : Int) := by
    rw [w64_id (x := (hi : Int) + 65536) (by omega) (by omega), w64_id (x := (hi : Int) + 65536 - 1) (by omega) (by omega), Int.tdiv_eq_ediv_of_nonneg (by omega), w64_id (by omega) (by omega)]
    omega
  intro r
  induction r with
  | zero =>
    intro i m b acc hi' hm ha
    cases m with
    | zero => omega
    | succ m =>
      have h1 : decide ((i : Int) < (((hi + 65535) / 65536 : Nat) : Int)) = false := decide_eq_false (by omega)
      rw [F40_L2]
      simp only [ee, h1, cond_false]
      rfl
  | succ r ih =>
    intro i m b acc hi' hm ha
    cases m with
    | zero => omega
    | succ m =>
      have hih : i * 65536 < hi := by omega
      have h1 : decide ((i : Int) < (((hi + 65535) / 65536 : Nat) : Int)) = true := decide_eq_true (by omega)
      have hn0 : decide ((N : Int) = 0) = false := decide_eq_false (by omega)
      have him : ((i : Int)).tmod (N : Int) = ((i % N : Nat) : Int) := by rw [tmn]
      obtain ⟨h, hhh⟩ : ∃ h, h = min (hi - i * 65536) 65536 := ⟨_, rfl⟩
      obtain ⟨w, hww⟩ : ∃ w, w = lo - i * 65536 := ⟨_, rfl⟩
      have hh : mn2 (w64 ((hi : Int) - w64 ((i : Int) * 65536))) 65536 = (h : Int) := by
        rw [w64_id (x := (i : Int) * 65536) (by omega) (by omega), w64_id (by omega) (by omega)]; unfold mn2; split <;> omega
      have hw : mx2 (w64 ((lo : Int) - w64 ((i : Int) * 65536))) 0 = (w : Int) := by
        rw [w64_id (x := (i : Int) * 65536) (by omega) (by omega), w64_id (by omega) (by omega)]; unfold mx2; split <;> omega
      have hcut : cutN l N lo hi i = cutS (sg l (i % N)) h w := by unfold cutN; rw [hhh, hww]
      have hi1 : w64 ((i : Int) + 1) = ((i + 1 : Nat) : Int) := by rw [w64_id (by omega) (by omega)]; omega
      have h62 := F62_eq (k := k) (l := l) (c := c) nl (i % N) (by have := Nat.mod_lt i hN0; omega) hp
      have hr1 := room_ok (n := acc.length) (a := 1) (b := 16) (by omega) (by omega) (by omega)
      have hr2 := room_ok (n := acc.length + 1) (a := 3) (b := 16) (by omega) (by omega) (by omega)
      have hr3 := room_ok (n := acc.length) (a := 3) (b := 16) (by omega) (by omega) (by omega)
      have h2 := ih (i + 1) m false (stepA l N lo hi i acc) (by omega) (by omega) (by
        unfold stepA
        rw [List.length_append, List.length_append]; split <;> simp <;> omega)
      rw [show (if r = 0 then false else false) = false by split <;> rfl] at h2
      show _ = some (false, (runA l N lo hi r (i + 1) (stepA l N lo hi i acc)).map encP)
      rw [← h2, F40_L2]
      unfold stepA
      rw [hcut]
      have hhp : 0 < h ∧ h ≤ 65536 := by omega
      have h2h : w64 (2 * (h : Int)) ≠ 0 := by rw [w64_id (by omega) (by omega)]; omega
      by_cases hA : h < 65536
      · have dA : decide (mn2 (w64 ((hi : Int) - w64 ((i : Int) * 65536))) 65536 < 65536) = true := by rw [hh]; exact decide_eq_true (by omega)
        by_cases hB : 0 < w
        · have dB : decide ((0 : Int) < mx2 (w64 ((lo : Int) - w64 ((i : Int) * 65536))) 0) = true := by rw [hw]; exact decide_eq_true (by omega)
          simp only [ee, h1, cond_true, hn0, cond_false, him, h62, Option.bind_some, cleanP, asrt_true, dA, dB, hi1, List.length_map]
          simp only [hh, hw, F78_v (k := k + 2), F56_v (k := k + 4) _ _ h2h, Option.bind_some, cutS, if_pos hA, if_pos hB]
          by_cases hC : acc.length = 0
          · have dC : ((acc.length : Int) == 0) = true := by rw [hC]; rfl
            simp only [dC, cond_true, hr1, asrt_true, len1, List.length_map, hr2, if_pos hC, List.map_append, List.map_cons, List.map_nil, encP, p0, p1, p2, p3, lft, rgt, spt]
          · have dC : ((acc.length : Int) == 0) = false := by rw [beq_eq_false_iff_ne]; omega
            simp only [dC, cond_false, hr3, asrt_true, List.length_map, if_neg hC, List.map_append, List.map_cons, List.map_nil, List.append_nil, encP, p0, p1, p2, p3, lft, rgt, spt]
        · have dB : decide ((0 : Int) < mx2 (w64 ((lo : Int) - w64 ((i : Int) * 65536))) 0) = false := by rw [hw]; exact decide_eq_false (by omega)
          simp only [ee, h1, cond_true, hn0, cond_false, him, h62, Option.bind_some, cleanP, asrt_true, dA, dB, hi1, List.length_map]
          simp only [hh, hw, F78_v (k := k + 2), Option.bind_some, cutS, if_pos hA, if_neg hB]
          by_cases hC : acc.length = 0
          · have dC : ((acc.length : Int) == 0) = true := by rw [hC]; rfl
            simp only [dC, cond_true, hr1, asrt_true, len1, List.length_map, hr2, if_pos hC, List.map_append, List.map_cons, List.map_nil, encP, p0, p1, p2, p3, lft, rgt, spt]
          · have dC : ((acc.length : Int) == 0) = false := by rw [beq_eq_false_iff_ne]; omega
            simp only [dC, cond_false, hr3, asrt_true, List.length_map, if_neg hC, List.map_append, List.map_cons, List.map_nil, List.append_nil, encP, p0, p1, p2, p3, lft, rgt, spt]
      · have dA : decide (mn2 (w64 ((hi : Int) - w64 ((i : Int) * 65536))) 65536 < 65536) = false := by rw [hh]; exact decide_eq_false (by omega)
        by_cases hB : 0 < w
        · have dB : decide ((0 : Int) < mx2 (w64 ((lo : Int) - w64 ((i : Int) * 65536))) 0) = true := by rw [hw]; exact decide_eq_true (by omega)
          simp only [ee, h1, cond_true, hn0, cond_false, him, h62, Option.bind_some, cleanP, asrt_true, dA, dB, hi1, List.length_map]
          simp only [hh, hw, F78_v (k := k + 2), F56_v (k := k + 4) _ _ h2h, Option.bind_some, cutS, if_neg hA, if_pos hB]
          by_cases hC : acc.length = 0
          · have dC : ((acc.length : Int) == 0) = true := by rw [hC]; rfl
            simp only [dC, cond_true, hr1, asrt_true, len1, List.length_map, hr2, if_pos hC, List.map_append, List.map_cons, List.map_nil, encP, p0, p1, p2, p3, lft, rgt, spt]
          · have dC : ((acc.length : Int) == 0) = false := by rw [beq_eq_false_iff_ne]; omega
            simp only [dC, cond_false, hr3, asrt_true, List.length_map, if_neg hC, List.map_append, List.map_cons, List.map_nil, List.append_nil, encP, p0, p1, p2, p3, lft, rgt, spt]
        · have dB : decide ((0 : Int) < mx2 (w64 ((lo : Int) - w64 ((i : Int) * 65536))) 0) = false := by rw [hw]; exact decide_eq_false (by omega)
          simp only [ee, h1, cond_true, hn0, cond_false, him, h62, Option.bind_some, cleanP, asrt_true, dA, dB, hi1, List.length_map]
          simp only [hh, hw, F78_v (k := k + 2), Option.bind_some, cutS, if_neg hA, if_neg hB]
          by_cases hC : acc.length = 0
          · have dC : ((acc.length : Int) == 0) = true := by rw [hC]; rfl
            simp only [dC, cond_true, hr1, asrt_true, len1, List.length_map, hr2, if_pos hC, List.map_append, List.map_cons, List.map_nil, encP, p0, p1, p2, p3, lft, rgt, spt]
          · have dC : ((acc.length : Int) == 0) = false := by rw [beq_eq_false_iff_ne]; omega
            simp only [dC, cond_false, hr3, asrt_true, List.length_map, if_neg hC, List.map_append, List.map_cons, List.map_nil, List.append_nil, encP, p0, p1, p2, p3, lft, rgt, spt]
theorem F40_L1_g (nl : Bool) {N lo hi : Nat} (hN : N = l.length / 3) (hp : 0 < l.length) (hN0 : 0 < N) (hN2 : N ≤ 200) (hhi : hi ≤ 40000000) (hlo : lo ≤ 20000000) {A B : Int} (hx : w64 (w64 ((lo : Int) + B) - A) = (hi : Int)) : ∀ (r i m : Nat) (b : Bool) (acc : List (Int × Int)), i + r = (hi + 65535) / 65536 → r < m → acc.length ≤ 3 * i + 1 →
    F40_L1 (k + 6) nl (l.map encP) c A B (N : Int) (lo : Int) m (i : Int) b (acc.map encP) = some (if r = 0 then b else false, (runA l N lo hi r i acc).map encP) := by
  have ee : w64 ((w64 (w64 ((hi : Int) + 65536) - 1)).tdiv 65536) = (((hi + 65535) / 65536 : Nat) : Int) := by
    rw [w64_id (x := (hi : Int) + 65536) (by omega) (by omega), w64_id (x := (hi : Int) + 65536 - 1) (by omega) (by omega), Int.tdiv_eq_ediv_of_nonneg (by omega), w64_id (by omega) (by omega)]
    omega
  intro r
  induction r with
  | zero =>
    intro i m b acc hi' hm ha
    cases m with
    | zero => omega
    | succ m =>
      have h1 : decide ((i : Int) < (((hi + 65535) / 65536 : Nat) : Int)) = false := decide_eq_false (by omega)
      rw [F40_L1]
      simp only [hx, ee, h1, cond_false]
      rfl
  | succ r ih =>
    intro i m b acc hi' hm ha
    cases m with
    | zero => omega
    | succ m =>
      have hih : i * 65536 < hi := by omega
      have h1 : decide ((i : Int) < (((hi + 65535) / 65536 : Nat) : Int)) = true := decide_eq_true (by omega)
      have hn0 : decide ((N : Int) = 0) = false := decide_eq_false (by omega)
      have him : ((i : Int)).tmod (N : Int) = ((i % N : Nat) : Int) := by rw [tmn]
      obtain ⟨h, hhh⟩ : ∃ h, h = min (hi - i * 65536) 65536 := ⟨_, rfl⟩
      obtain ⟨w, hww⟩ : ∃ w, w = lo - i * 65536 := ⟨_, rfl⟩
      have hh : mn2 (w64 ((hi : Int) - w64 ((i : Int) * 65536))) 65536 = (h : Int) := by
        rw [w64_id (x := (i : Int) * 65536) (by omega) (by omega), w64_id (by omega) (by omega)]; unfold mn2; split <;> omega
      have hw : mx2 (w64 ((lo : Int) - w64 ((i : Int) * 65536))) 0 = (w : Int) := by
        rw [w64_id (x := (i : Int) * 65536) (by omega) (by omega), w64_id (by omega) (by omega)]; unfold mx2; split <;> omega
      have hcut : cutN l N lo hi i = cutS (sg l (i % N)) h w := by unfold cutN; rw [hhh, hww]
      have hi1 : w64 ((i : Int) + 1) = ((i + 1 : Nat) : Int) := by rw [w64_id (by omega) (by omega)]; omega
      have h62 := F62_eq (k := k) (l := l) (c := c) nl (i % N) (by have := Nat.mod_lt i hN0; omega) hp
      have hr1 := room_ok (n := acc.length) (a := 1) (b := 16) (by omega) (by omega) (by omega)
      have hr2 := room_ok (n := acc.length + 1) (a := 3) (b := 16) (by omega) (by omega) (by omega)
      have hr3 := room_ok (n := acc.length) (a := 3) (b := 16) (by omega) (by omega) (by omega)
      have h2 := ih (i + 1) m false (stepA l N lo hi i acc) (by omega) (by omega) (by
        unfold stepA
        rw [List.length_append, List.length_append]; split <;> simp <;> omega)
      rw [show (if r = 0 then false else false) = false by split <;> rfl] at h2
      show _ = some (false, (runA l N lo hi r (i + 1) (stepA l N lo hi i acc)).map encP)
      rw [← h2, F40_L1]
      unfold stepA
      rw [hcut]
      have hhp : 0 < h ∧ h ≤ 65536 := by omega
      have h2h : w64 (2 * (h : Int)) ≠ 0 := by rw [w64_id (by omega) (by omega)]; omega
      by_cases hA : h < 65536
      · have dA : decide (mn2 (w64 ((hi : Int) - w64 ((i : Int) * 65536))) 65536 < 65536) = true := by rw [hh]; exact decide_eq_true (by omega)
        by_cases hB : 0 < w
        · have dB : decide ((0 : Int) < mx2 (w64 ((lo : Int) - w64 ((i : Int) * 65536))) 0) = true := by rw [hw]; exact decide_eq_true (by omega)
          simp only [hx, ee, h1, cond_true, hn0, cond_false, him, h62, Option.bind_some, cleanP, asrt_true, dA, dB, hi1, List.length_map]
          simp only [hh, hw, F78_v (k := k + 2), F56_v (k := k + 4) _ _ h2h, Option.bind_some, cutS, if_pos hA, if_pos hB]
          by_cases hC : acc.length = 0
          · have dC : ((acc.length : Int) == 0) = true := by rw [hC]; rfl
            simp only [dC, cond_true, hr1, asrt_true, len1, List.length_map, hr2, if_pos hC, List.map_append, List.map_cons, List.map_nil, encP, p0, p1, p2, p3, lft, rgt, spt]
          · have dC : ((acc.length : Int) == 0) = false := by rw [beq_eq_false_iff_ne]; omega
            simp only [dC, cond_false, hr3, asrt_true, List.length_map, if_neg hC, List.map_append, List.map_cons, List.map_nil, List.append_nil, encP, p0, p1, p2, p3, lft, rgt, spt]
        · have dB : decide ((0 : Int) < mx2 (w64 ((lo : Int) - w64 ((i : Int) * 65536))) 0) = false := by rw [hw]; exact decide_eq_false (by omega)
          simp only [hx, ee, h1, cond_true, hn0, cond_false, him, h62, Option.bind_some, cleanP, asrt_true, dA, dB, hi1, List.length_map]
          simp only [hh, hw, F78_v (k := k + 2), Option.bind_some, cutS, if_pos hA, if_neg hB]
          by_cases hC : acc.length = 0
          · have dC : ((acc.length : Int) == 0) = true := by rw [hC]; rfl
            simp only [dC, cond_true, hr1, asrt_true, len1, List.length_map, hr2, if_pos hC, List.map_append, List.map_cons, List.map_nil, encP, p0, p1, p2, p3, lft, rgt, spt]
          · have dC : ((acc.length : Int) == 0) = false := by rw [beq_eq_false_iff_ne]; omega
            simp only [dC, cond_false, hr3, asrt_true, List.length_map, if_neg hC, List.map_append, List.map_cons, List.map_nil, List.append_nil, encP, p0, p1, p2, p3, lft, rgt, spt]
      · have dA : decide (mn2 (w64 ((hi : Int) - w64 ((i : Int) * 65536))) 65536 < 65536) = false := by rw [hh]; exact decide_eq_false (by omega)
        by_cases hB : 0 < w
        · have dB : decide ((0 : Int) < mx2 (w64 ((lo : Int) - w64 ((i : Int) * 65536))) 0) = true := by rw [hw]; exact decide_eq_true (by omega)
          simp only [hx, ee, h1, cond_true, hn0, cond_false, him, h62, Option.bind_some, cleanP, asrt_true, dA, dB, hi1, List.length_map]
          simp only [hh, hw, F78_v (k := k + 2), F56_v (k := k + 4) _ _ h2h, Option.bind_some, cutS, if_neg hA, if_pos hB]
          by_cases hC : acc.length = 0
          · have dC : ((acc.length : Int) == 0) = true := by rw [hC]; rfl
            simp only [dC, cond_true, hr1, asrt_true, len1, List.length_map, hr2, if_pos hC, List.map_append, List.map_cons, List.map_nil, encP, p0, p1, p2, p3, lft, rgt, spt]
          · have dC : ((acc.length : Int) == 0) = false := by rw [beq_eq_false_iff_ne]; omega
            simp only [dC, cond_false, hr3, asrt_true, List.length_map, if_neg hC, List.map_append, List.map_cons, List.map_nil, List.append_nil, encP, p0, p1, p2, p3, lft, rgt, spt]
        · have dB : decide ((0 : Int) < mx2 (w64 ((lo : Int) - w64 ((i : Int) * 65536))) 0) = false := by rw [hw]; exact decide_eq_false (by omega)
          simp only [hx, ee, h1, cond_true, hn0, cond_false, him, h62, Option.bind_some, cleanP, asrt_true, dA, dB, hi1, List.length_map]
          simp only [hh, hw, F78_v (k := k + 2), Option.bind_some, cutS, if_neg hA, if_neg hB]
          by_cases hC : acc.length = 0
          · have dC : ((acc.length : Int) == 0) = true := by rw [hC]; rfl
            simp only [dC, cond_true, hr1, asrt_true, len1, List.length_map, hr2, if_pos hC, List.map_append, List.map_cons, List.map_nil, encP, p0, p1, p2, p3, lft, rgt, spt]
          · have dC : ((acc.length : Int) == 0) = false := by rw [beq_eq_false_iff_ne]; omega
            simp only [dC, cond_false, hr3, asrt_true, List.length_map, if_neg hC, List.map_append, List.map_cons, List.map_nil, List.append_nil, encP, p0, p1, p2, p3, lft, rgt, spt]
theorem F41_L2_1_g (nl : Bool) {N lo hi : Nat} (hN : N = l.length / 3) (hp : 0 < l.length) (hN0 : 0 < N) (hN2 : N ≤ 200) (hl : l.length ≤ 605) (hhi : hi ≤ 40000000) (hlo : lo ≤ 20000000) {z1 : Int × Int × Int} {z2 : Int} : ∀ (r i m : Nat) (acc : List (Int × Int)), i + r = (hi + 65535) / 65536 → r < m → lo / 65536 < i → 0 < acc.length → acc.length ≤ 3 * i + 1 →
    F41_L2_1 (k + 6) nl (l.map encP) c (lo : Int) (hi : Int) z1 z2 m (i : Int) acc.length (acc.map encP) = some (Sum.inr ((runA l N lo hi r i acc).length, (runA l N lo hi r i acc).map encP)) := by
  intro r
  induction r with
  | zero =>
    intro i m acc hi' hm hlt ha1 ha
    obtain ⟨m, rfl⟩ : ∃ j, m = j + 1 := ⟨m - 1, by omega⟩
    have h1 : decide (w64 ((i : Int) * 65536) < (hi : Int)) = false := decide_eq_false (by rw [w64_id (by omega) (by omega)]; omega)
    rw [F41_L2_1]
    simp only [h1, cond_false]
    rfl
  | succ r ih =>
    intro i m acc hi' hm hlt ha1 ha
    obtain ⟨m, rfl⟩ : ∃ j, m = j + 1 := ⟨m - 1, by omega⟩
    have hih : i * 65536 < hi := by omega
    have h1 : decide (w64 ((i : Int) * 65536) < (hi : Int)) = true := decide_eq_true (by rw [w64_id (by omega) (by omega)]; omega)
    have hn0 : decide ((N : Int) = 0) = false := decide_eq_false (by omega)
    have him : ((i : Int)).tmod (N : Int) = ((i % N : Nat) : Int) := by rw [tmn]
    obtain ⟨h, hhh⟩ : ∃ h, h = min (hi - i * 65536) 65536 := ⟨_, rfl⟩
    obtain ⟨w, hww⟩ : ∃ w, w = lo - i * 65536 := ⟨_, rfl⟩
    have hh : mn2 (w64 ((hi : Int) - w64 ((i : Int) * 65536))) 65536 = (h : Int) := by
      rw [w64_id (x := (i : Int) * 65536) (by omega) (by omega), w64_id (by omega) (by omega)]; unfold mn2; split <;> omega
    have hw : mx2 (w64 ((lo : Int) - w64 ((i : Int) * 65536))) 0 = (w : Int) := by
      rw [w64_id (x := (i : Int) * 65536) (by omega) (by omega), w64_id (by omega) (by omega)]; unfold mx2; split <;> omega
    have hw0 : w = 0 := by omega
    have hcut : cutN l N lo hi i = cutS (sg l (i % N)) h w := by unfold cutN; rw [hhh, hww]
    have hi1 : w64 ((i : Int) + 1) = ((i + 1 : Nat) : Int) := by rw [w64_id (by omega) (by omega)]; omega
    have h61 := F61_eq (k := k + 5) (l := l) (c := c) nl hl
    have h65 := F65_eq (k := k + 4) (l := l) (c := c) nl (i % N) (by have := Nat.mod_lt i hN0; omega) hp
    have h88 := F88_u (k := k + 5) (lo : Int) (by omega) (by omega)
    have hne : ((i : Int) == (lo : Int) / 65536) = false := by rw [beq_eq_false_iff_ne]; omega
    have hr3 := room_ok (n := acc.length) (a := 3) (b := 16) (by omega) (by omega) (by omega)
    have hz : decide (0 = 0 ∧ acc.length ≤ (acc.map encP).length) = true := decide_eq_true (by simp)
    have htake : List.take acc.length (acc.map encP) = acc.map encP := List.take_of_length_le (by simp)
    have hs : stepA l N lo hi i acc = acc ++ [p1 (cutN l N lo hi i), p2 (cutN l N lo hi i), p3 (cutN l N lo hi i)] := by
      unfold stepA; rw [if_neg (by omega), List.append_nil]
    have h2 := ih (i + 1) m (acc ++ [p1 (cutN l N lo hi i), p2 (cutN l N lo hi i), p3 (cutN l N lo hi i)]) (by omega) (by omega) (by omega) (by simp) (by simp; omega)
    rw [← hs] at h2
    show _ = some (Sum.inr ((runA l N lo hi r (i + 1) (stepA l N lo hi i acc)).length, (runA l N lo hi r (i + 1) (stepA l N lo hi i acc)).map encP))
    rw [← hN] at h61
    rw [← h2, F41_L2_1, hz, hs, hcut]
    have dB : decide ((0 : Int) < mx2 (w64 ((lo : Int) - w64 ((i : Int) * 65536))) 0) = false := by rw [hw]; exact decide_eq_false (by omega)
    by_cases hA : h < 65536
    · have dA : decide (mn2 (w64 ((hi : Int) - w64 ((i : Int) * 65536))) 65536 < 65536) = true := by rw [hh]; exact decide_eq_true (by omega)
      simp only [h1, cond_true, h61, hn0, cond_false, him, h65, Option.bind_some, cleanP, asrt_true, dA, dB, hi1]
      simp only [hh, hw, F78_v (k := k + 2), Option.bind_some, cutS, if_pos hA, if_neg (show ¬ 0 < w by omega), hr3, asrt_true, hz, h88, hne, cond_false, htake, List.length_append, List.length_cons, List.length_nil, List.map_append, List.map_cons, List.map_nil, encP, p0, p1, p2, p3, lft, rgt, spt]
    · have dA : decide (mn2 (w64 ((hi : Int) - w64 ((i : Int) * 65536))) 65536 < 65536) = false := by rw [hh]; exact decide_eq_false (by omega)
      simp only [h1, cond_true, h61, hn0, cond_false, him, h65, Option.bind_some, cleanP, asrt_true, dA, dB, hi1]
      simp only [hh, hw, F78_v (k := k + 2), Option.bind_some, cutS, if_neg hA, if_neg (show ¬ 0 < w by omega), hr3, asrt_true, hz, h88, hne, cond_false, htake, List.length_append, List.length_cons, List.length_nil, List.map_append, List.map_cons, List.map_nil, encP, p0, p1, p2, p3, lft, rgt, spt]
theorem F41_L1_1_g (nl : Bool) {N lo hi : Nat} (hN : N = l.length / 3) (hp : 0 < l.length) (hN0 : 0 < N) (hN2 : N ≤ 200) (hl : l.length ≤ 605) (hhi : hi ≤ 40000000) (hlo : lo ≤ 20000000) {A B : Int} {z1 : Int × Int × Int} {z2 : Int} (hx : w64 (w64 (B - A) + (lo : Int)) = (hi : Int)) : ∀ (r i m : Nat) (acc : List (Int × Int)), i + r = (hi + 65535) / 65536 → r < m → lo / 65536 < i → 0 < acc.length → acc.length ≤ 3 * i + 1 →
    F41_L1_1 (k + 6) nl (l.map encP) c A B (lo : Int) z1 z2 m (i : Int) acc.length (acc.map encP) = some (Sum.inr ((runA l N lo hi r i acc).length, (runA l N lo hi r i acc).map encP)) := by
  intro r
  induction r with
  | zero =>
    intro i m acc hi' hm hlt ha1 ha
    obtain ⟨m, rfl⟩ : ∃ j, m = j + 1 := ⟨m - 1, by omega⟩
    have h1 : decide (w64 ((i : Int) * 65536) < (hi : Int)) = false := decide_eq_false (by rw [w64_id (by omega) (by omega)]; omega)
    rw [F41_L1_1]
    simp only [hx, h1, cond_false]
    rfl
  | succ r ih =>
    intro i m acc hi' hm hlt ha1 ha
    obtain ⟨m, rfl⟩ : ∃ j, m = j + 1 := ⟨m - 1, by omega⟩
    have hih : i * 65536 < hi := by omega
    have h1 : decide (w64 ((i : Int) * 65536) < (hi : Int)) = true := decide_eq_true (by rw [w64_id (by omega) (by omega)]; omega)
    have hn0 : decide ((N : Int) = 0) = false := decide_eq_false (by omega)
    have him : ((i : Int)).tmod (N : Int) = ((i % N : Nat) : Int) := by rw [tmn]
    obtain ⟨h, hhh⟩ : ∃ h, h = min (hi - i * 65536) 65536 := ⟨_, rfl⟩
    obtain ⟨w, hww⟩ : ∃ w, w = lo - i * 65536 := ⟨_, rfl⟩
    have hh : mn2 (w64 ((hi : Int) - w64 ((i : Int) * 65536))) 65536 = (h : Int) := by
      rw [w64_id (x := (i : Int) * 65536) (by omega) (by omega), w64_id (by omega) (by omega)]; unfold mn2; split <;> omega
    have hw : mx2 (w64 ((lo : Int) - w64 ((i : Int) * 65536))) 0 = (w : Int) := by
      rw [w64_id (x := (i : Int) * 65536) (by omega) (by omega), w64_id (by omega) (by omega)]; unfold mx2; split <;> omega
    have hw0 : w = 0 := by omega
    have hcut : cutN l N lo hi i = cutS (sg l (i % N)) h w := by unfold cutN; rw [hhh, hww]
    have hi1 : w64 ((i : Int) + 1) = ((i + 1 : Nat) : Int) := by rw [w64_id (by omega) (by omega)]; omega
    have h61 := F61_eq (k := k + 5) (l := l) (c := c) nl hl
    have h65 := F65_eq (k := k + 4) (l := l) (c := c) nl (i % N) (by have := Nat.mod_lt i hN0; omega) hp
    have h88 := F88_u (k := k + 5) (lo : Int) (by omega) (by omega)
    have hne : ((i : Int) == (lo : Int) / 65536) = false := by rw [beq_eq_false_iff_ne]; omega
    have hr3 := room_ok (n := acc.length) (a := 3) (b := 16) (by omega) (by omega) (by omega)
    have hz : decide (0 = 0 ∧ acc.length ≤ (acc.map encP).length) = true := decide_eq_true (by simp)
    have htake : List.take acc.length (acc.map encP) = acc.map encP := List.take_of_length_le (by simp)
    have hs : stepA l N lo hi i acc = acc ++ [p1 (cutN l N lo hi i), p2 (cutN l N lo hi i), p3 (cutN l N lo hi i)] := by
      unfold stepA; rw [if_neg (by omega), List.append_nil]
    have h2 := ih (i + 1) m (acc ++ [p1 (cutN l N lo hi i), p2 (cutN l N lo hi i), p3 (cutN l N lo hi i)]) (by omega) (by omega) (by omega) (by simp) (by simp; omega)
    rw [← hs] at h2
    show _ = some (Sum.inr ((runA l N lo hi r (i + 1) (stepA l N lo hi i acc)).length, (runA l N lo hi r (i + 1) (stepA l N lo hi i acc)).map encP))
    rw [← hN] at h61
    rw [← h2, F41_L1_1, hz, hs, hcut]
    have dB : decide ((0 : Int) < mx2 (w64 ((lo : Int) - w64 ((i : Int) * 65536))) 0) = false := by rw [hw]; exact decide_eq_false (by omega)
    by_cases hA : h < 65536
    · have dA : decide (mn2 (w64 ((hi : Int) - w64 ((i : Int) * 65536))) 65536 < 65536) = true := by rw [hh]; exact decide_eq_true (by omega)
      simp only [hx, h1, cond_true, h61, hn0, cond_false, him, h65, Option.bind_some, cleanP, asrt_true, dA, dB, hi1]
      simp only [hh, hw, F78_v (k := k + 2), Option.bind_some, cutS, if_pos hA, if_neg (show ¬ 0 < w by omega), hr3, asrt_true, hz, h88, hne, cond_false, htake, List.length_append, List.length_cons, List.length_nil, List.map_append, List.map_cons, List.map_nil, encP, p0, p1, p2, p3, lft, rgt, spt]
    · have dA : decide (mn2 (w64 ((hi : Int) - w64 ((i : Int) * 65536))) 65536 < 65536) = false := by rw [hh]; exact decide_eq_false (by omega)
      simp only [hx, h1, cond_true, h61, hn0, cond_false, him, h65, Option.bind_some, cleanP, asrt_true, dA, dB, hi1]
      simp only [hh, hw, F78_v (k := k + 2), Option.bind_some, cutS, if_neg hA, if_neg (show ¬ 0 < w by omega), hr3, asrt_true, hz, h88, hne, cond_false, htake, List.length_append, List.length_cons, List.length_nil, List.map_append, List.map_cons, List.map_nil, encP, p0, p1, p2, p3, lft, rgt, spt]
end
end Go.Proofs.YtjfpcgkgdajcfaaGreatDoor
