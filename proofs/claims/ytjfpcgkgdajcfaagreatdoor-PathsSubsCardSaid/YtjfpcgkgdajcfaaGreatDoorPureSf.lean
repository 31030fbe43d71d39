/-
  PathsSubs, plainly: Sub is the reference's; no condition but the sizes named.
-/
import Derived.Test.YtjfpcgkgdajcfaaGreatDoorPureSr
open Go Go.Ev
namespace Go.Proofs.YtjfpcgkgdajcfaaGreatDoor
set_option linter.unusedSimpArgs false
set_option linter.unusedVariables false
section
variable {l : List (Int × Int)} {c : Bool} {k : Nat}
theorem stepA_nil (N lo hi i : Nat) : stepA l N lo hi i [] = [p0 (cutN l N lo hi i), p1 (cutN l N lo hi i), p2 (cutN l N lo hi i), p3 (cutN l N lo hi i)] := rfl
theorem runA_len (N lo hi : Nat) : ∀ (r i : Nat) (acc : List (Int × Int)), 0 < acc.length → (runA l N lo hi r i acc).length = acc.length + 3 * r := by
  intro r
  induction r with
  | zero => intro i acc _; rfl
  | succ r ih =>
    intro i acc h
    have hs : (stepA l N lo hi i acc).length = acc.length + 3 := by
      unfold stepA; rw [if_neg (by omega)]; simp
    show (runA l N lo hi r (i + 1) (stepA l N lo hi i acc)).length = _
    rw [ih _ _ (by omega), hs]; omega
theorem runA_len0 (N lo hi r i : Nat) (hr : 0 < r) : (runA l N lo hi r i []).length = 3 * r + 1 := by
  obtain ⟨r, rfl⟩ : ∃ j, r = j + 1 := ⟨r - 1, by omega⟩
  show (runA l N lo hi r (i + 1) (stepA l N lo hi i [])).length = _
  rw [stepA_nil, runA_len _ _ _ _ _ _ (by simp)]
  simp; omega
theorem F41_L2_f (nl : Bool) {N lo hi : Nat} (hN : N = l.length / 3) (hp : 0 < l.length) (hN0 : 0 < N) (hN2 : N ≤ 200) (hl : l.length ≤ 605) (hhi : hi ≤ 40000000) (hlo : lo ≤ 20000000) {z1 : Int × Int × Int} (hlt : lo < hi) (m : Nat) (hm : (hi + 65535) / 65536 - lo / 65536 < m) :
    F41_L2 (k + 6) nl (l.map encP) c (lo : Int) (hi : Int) z1 ((lo / 65536 : Nat) : Int) (m + 1) = some (Sum.inr ((runA l N lo hi ((hi + 65535) / 65536 - lo / 65536) (lo / 65536) []).length, (runA l N lo hi ((hi + 65535) / 65536 - lo / 65536) (lo / 65536) []).map encP)) := by
  obtain ⟨r, hr⟩ : ∃ r, (hi + 65535) / 65536 - lo / 65536 = r + 1 := ⟨(hi + 65535) / 65536 - lo / 65536 - 1, by omega⟩
  obtain ⟨i, hi'⟩ : ∃ i, lo / 65536 = i := ⟨_, rfl⟩
  rw [hr, hi']
  rw [hi'] at hr
  have hih : i * 65536 < hi := by omega
  have h1 : decide (w64 ((i : Int) * 65536) < (hi : Int)) = true := decide_eq_true (by rw [w64_id (by omega) (by omega)]; omega)
  have hn0 : decide ((N : Int) = 0) = false := decide_eq_false (by omega)
  have him : ((i : Int)).tmod (N : Int) = ((i % N : Nat) : Int) := by rw [tmn]
  obtain ⟨h, hhh⟩ : ∃ h, h = min (hi - i * 65536) 65536 := ⟨_, rfl⟩
  obtain ⟨w, hww⟩ : ∃ w, w = lo - i * 65536 := ⟨_, rfl⟩
  have hh : mn2 (w64 ((hi : Int) - w64 ((i : Int) * 65536))) 65536 = (h : Int) := by
    rw [w64_id (x := (i : Int) * 65536) (by omega) (by omega), w64_id (by omega) (by omega)]; unfold mn2; split <;> omega
  have hw : mx2 (w64 ((lo : Int) - w64 ((i : Int) * 65536))) 0 = (w : Int) := by
    rw [w64_id (x := (i : Int) * 65536) (by omega) (by omega), w64_id (by omega) (by omega)]; unfold mx2; split <;> omega
  have hcut : cutN l N lo hi i = cutS (sg l (i % N)) h w := by unfold cutN; rw [hhh, hww]
  have hi1 : w64 ((i : Int) + 1) = ((i + 1 : Nat) : Int) := by rw [w64_id (by omega) (by omega)]; omega
  have h61 := F61_eq (k := k + 5) (l := l) (c := c) nl hl
  have h65 := F65_eq (k := k + 4) (l := l) (c := c) nl (i % N) (by have := Nat.mod_lt i hN0; omega) hp
  have h88 := F88_u (k := k + 5) (lo : Int) (by omega) (by omega)
  have heq : ((i : Int) == (lo : Int) / 65536) = true := by rw [beq_iff_eq]; omega
  have hhp : 0 < h ∧ h ≤ 65536 := by omega
  have h2h : w64 (2 * (h : Int)) ≠ 0 := by rw [w64_id (by omega) (by omega)]; omega
  have h2 := F41_L2_1_g (k := k) (c := c) (z1 := z1) (z2 := (i : Int)) nl hN hp hN0 hN2 hl hhi hlo r (i + 1) m (stepA l N lo hi i []) (by omega) (by omega) (by omega) (by rw [stepA_nil]; simp) (by rw [stepA_nil]; show 4 ≤ 3 * (i + 1) + 1; omega)
  show _ = some (Sum.inr ((runA l N lo hi r (i + 1) (stepA l N lo hi i [])).length, (runA l N lo hi r (i + 1) (stepA l N lo hi i [])).map encP))
  rw [← hN] at h61
  rw [← h2, F41_L2, stepA_nil, hcut]
  by_cases hA : h < 65536
  · have dA : decide (mn2 (w64 ((hi : Int) - w64 ((i : Int) * 65536))) 65536 < 65536) = true := by rw [hh]; exact decide_eq_true (by omega)
    by_cases hB : 0 < w
    · have dB : decide ((0 : Int) < mx2 (w64 ((lo : Int) - w64 ((i : Int) * 65536))) 0) = true := by rw [hw]; exact decide_eq_true (by omega)
      simp only [h1, cond_true, h61, hn0, cond_false, him, h65, Option.bind_some, cleanP, asrt_true, dA, dB, hi1]
      simp only [hh, hw, F78_v (k := k + 2), F56_v (k := k + 4) _ _ h2h, Option.bind_some, cutS, if_pos hA, if_pos hB, h88, heq, cond_true, List.length_cons, List.length_nil, List.map_cons, List.map_nil, encP, p0, p1, p2, p3, lft, rgt, spt]
    · have dB : decide ((0 : Int) < mx2 (w64 ((lo : Int) - w64 ((i : Int) * 65536))) 0) = false := by rw [hw]; exact decide_eq_false (by omega)
      simp only [h1, cond_true, h61, hn0, cond_false, him, h65, Option.bind_some, cleanP, asrt_true, dA, dB, hi1]
      simp only [hh, hw, F78_v (k := k + 2), Option.bind_some, cutS, if_pos hA, if_neg hB, h88, heq, cond_true, List.length_cons, List.length_nil, List.map_cons, List.map_nil, encP, p0, p1, p2, p3, lft, rgt, spt]
  · have dA : decide (mn2 (w64 ((hi : Int) - w64 ((i : Int) * 65536))) 65536 < 65536) = false := by rw [hh]; exact decide_eq_false (by omega)
    by_cases hB : 0 < w
    · have dB : decide ((0 : Int) < mx2 (w64 ((lo : Int) - w64 ((i : Int) * 65536))) 0) = true := by rw [hw]; exact decide_eq_true (by omega)
      simp only [h1, cond_true, h61, hn0, cond_false, him, h65, Option.bind_some, cleanP, asrt_true, dA, dB, hi1]
      simp only [hh, hw, F78_v (k := k + 2), F56_v (k := k + 4) _ _ h2h, Option.bind_some, cutS, if_neg hA, if_pos hB, h88, heq, cond_true, List.length_cons, List.length_nil, List.map_cons, List.map_nil, encP, p0, p1, p2, p3, lft, rgt, spt]
    · have dB : decide ((0 : Int) < mx2 (w64 ((lo : Int) - w64 ((i : Int) * 65536))) 0) = false := by rw [hw]; exact decide_eq_false (by omega)
      simp only [h1, cond_true, h61, hn0, cond_false, him, h65, Option.bind_some, cleanP, asrt_true, dA, dB, hi1]
      simp only [hh, hw, F78_v (k := k + 2), Option.bind_some, cutS, if_neg hA, if_neg hB, h88, heq, cond_true, List.length_cons, List.length_nil, List.map_cons, List.map_nil, encP, p0, p1, p2, p3, lft, rgt, spt]
theorem F41_L1_f (nl : Bool) {N lo hi : Nat} (hN : N = l.length / 3) (hp : 0 < l.length) (hN0 : 0 < N) (hN2 : N ≤ 200) (hl : l.length ≤ 605) (hhi : hi ≤ 40000000) (hlo : lo ≤ 20000000) {A B : Int} {z1 : Int × Int × Int} (hx : w64 (w64 (B - A) + (lo : Int)) = (hi : Int)) (hlt : lo < hi) (m : Nat) (hm : (hi + 65535) / 65536 - lo / 65536 < m) :
    F41_L1 (k + 6) nl (l.map encP) c A B (lo : Int) z1 ((lo / 65536 : Nat) : Int) (m + 1) = some (Sum.inr ((runA l N lo hi ((hi + 65535) / 65536 - lo / 65536) (lo / 65536) []).length, (runA l N lo hi ((hi + 65535) / 65536 - lo / 65536) (lo / 65536) []).map encP)) := by
  obtain ⟨r, hr⟩ : ∃ r, (hi + 65535) / 65536 - lo / 65536 = r + 1 := ⟨(hi + 65535) / 65536 - lo / 65536 - 1, by omega⟩
  obtain ⟨i, hi'⟩ : ∃ i, lo / 65536 = i := ⟨_, rfl⟩
  rw [hr, hi']
  rw [hi'] at hr
  have hih : i * 65536 < hi := by omega
  have h1 : decide (w64 ((i : Int) * 65536) < (hi : Int)) = true := decide_eq_true (by rw [w64_id (by omega) (by omega)]; omega)
  have hn0 : decide ((N : Int) = 0) = false := decide_eq_false (by omega)
  have him : ((i : Int)).tmod (N : Int) = ((i % N : Nat) : Int) := by rw [tmn]
  obtain ⟨h, hhh⟩ : ∃ h, h = min (hi - i * 65536) 65536 := ⟨_, rfl⟩
  obtain ⟨w, hww⟩ : ∃ w, w = lo - i * 65536 := ⟨_, rfl⟩
  have hh : mn2 (w64 ((hi : Int) - w64 ((i : Int) * 65536))) 65536 = (h : Int) := by
    rw [w64_id (x := (i : Int) * 65536) (by omega) (by omega), w64_id (by omega) (by omega)]; unfold mn2; split <;> omega
  have hw : mx2 (w64 ((lo : Int) - w64 ((i : Int) * 65536))) 0 = (w : Int) := by
    rw [w64_id (x := (i : Int) * 65536) (by omega) (by omega), w64_id (by omega) (by omega)]; unfold mx2; split <;> omega
  have hcut : cutN l N lo hi i = cutS (sg l (i % N)) h w := by unfold cutN; rw [hhh, hww]
  have hi1 : w64 ((i : Int) + 1) = ((i + 1 : Nat) : Int) := by rw [w64_id (by omega) (by omega)]; omega
  have h61 := F61_eq (k := k + 5) (l := l) (c := c) nl hl
  have h65 := F65_eq (k := k + 4) (l := l) (c := c) nl (i % N) (by have := Nat.mod_lt i hN0; omega) hp
  have h88 := F88_u (k := k + 5) (lo : Int) (by omega) (by omega)
  have heq : ((i : Int) == (lo : Int) / 65536) = true := by rw [beq_iff_eq]; omega
  have hhp : 0 < h ∧ h ≤ 65536 := by omega
  have h2h : w64 (2 * (h : Int)) ≠ 0 := by rw [w64_id (by omega) (by omega)]; omega
  have h2 := F41_L1_1_g (k := k) (c := c) (z1 := z1) (z2 := (i : Int)) nl hN hp hN0 hN2 hl hhi hlo hx r (i + 1) m (stepA l N lo hi i []) (by omega) (by omega) (by omega) (by rw [stepA_nil]; simp) (by rw [stepA_nil]; show 4 ≤ 3 * (i + 1) + 1; omega)
  show _ = some (Sum.inr ((runA l N lo hi r (i + 1) (stepA l N lo hi i [])).length, (runA l N lo hi r (i + 1) (stepA l N lo hi i [])).map encP))
  rw [← hN] at h61
  rw [← h2, F41_L1, stepA_nil, hcut]
  by_cases hA : h < 65536
  · have dA : decide (mn2 (w64 ((hi : Int) - w64 ((i : Int) * 65536))) 65536 < 65536) = true := by rw [hh]; exact decide_eq_true (by omega)
    by_cases hB : 0 < w
    · have dB : decide ((0 : Int) < mx2 (w64 ((lo : Int) - w64 ((i : Int) * 65536))) 0) = true := by rw [hw]; exact decide_eq_true (by omega)
      simp only [hx, h1, cond_true, h61, hn0, cond_false, him, h65, Option.bind_some, cleanP, asrt_true, dA, dB, hi1]
      simp only [hh, hw, F78_v (k := k + 2), F56_v (k := k + 4) _ _ h2h, Option.bind_some, cutS, if_pos hA, if_pos hB, h88, heq, cond_true, List.length_cons, List.length_nil, List.map_cons, List.map_nil, encP, p0, p1, p2, p3, lft, rgt, spt]
    · have dB : decide ((0 : Int) < mx2 (w64 ((lo : Int) - w64 ((i : Int) * 65536))) 0) = false := by rw [hw]; exact decide_eq_false (by omega)
      simp only [hx, h1, cond_true, h61, hn0, cond_false, him, h65, Option.bind_some, cleanP, asrt_true, dA, dB, hi1]
      simp only [hh, hw, F78_v (k := k + 2), Option.bind_some, cutS, if_pos hA, if_neg hB, h88, heq, cond_true, List.length_cons, List.length_nil, List.map_cons, List.map_nil, encP, p0, p1, p2, p3, lft, rgt, spt]
  · have dA : decide (mn2 (w64 ((hi : Int) - w64 ((i : Int) * 65536))) 65536 < 65536) = false := by rw [hh]; exact decide_eq_false (by omega)
    by_cases hB : 0 < w
    · have dB : decide ((0 : Int) < mx2 (w64 ((lo : Int) - w64 ((i : Int) * 65536))) 0) = true := by rw [hw]; exact decide_eq_true (by omega)
      simp only [hx, h1, cond_true, h61, hn0, cond_false, him, h65, Option.bind_some, cleanP, asrt_true, dA, dB, hi1]
      simp only [hh, hw, F78_v (k := k + 2), F56_v (k := k + 4) _ _ h2h, Option.bind_some, cutS, if_neg hA, if_pos hB, h88, heq, cond_true, List.length_cons, List.length_nil, List.map_cons, List.map_nil, encP, p0, p1, p2, p3, lft, rgt, spt]
    · have dB : decide ((0 : Int) < mx2 (w64 ((lo : Int) - w64 ((i : Int) * 65536))) 0) = false := by rw [hw]; exact decide_eq_false (by omega)
      simp only [hx, h1, cond_true, h61, hn0, cond_false, him, h65, Option.bind_some, cleanP, asrt_true, dA, dB, hi1]
      simp only [hh, hw, F78_v (k := k + 2), Option.bind_some, cutS, if_neg hA, if_neg hB, h88, heq, cond_true, List.length_cons, List.length_nil, List.map_cons, List.map_nil, encP, p0, p1, p2, p3, lft, rgt, spt]
end
end Go.Proofs.YtjfpcgkgdajcfaaGreatDoor
