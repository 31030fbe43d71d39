/-
  The pure statements of FixQuarters, FixHypots and FixTurned: what the printed laws compute is true, for every input.
-/
import Derived.Test.YtjaifahodfljkaaDoorFixA
import Derived.Test.YtjaifahodfljkaaDoorZx5
import Derived.Test.YtjaifahodfljkaaDoorZx6
namespace Go.Proofs.YtjaifahodfljkaaDoor.Z
open Go Go.RowKit Go.Proofs.YtjaifahodfljkaaDoorW.PrintWords Go.Proofs.YtjaifahodfljkaaDoorW.PrintMore

theorem awake_true : fleuronlaw02_awake.f 80 = some true := by decide +kernel
theorem awake_at (k : Nat) (hk : 80 ≤ k) : fleuronlaw02_awake.f k = some true := at_rounds (fun k => fleuronlaw02_awake.mono k) hk awake_true
theorem wf64 {a : Int} (h : (Lit.int .i64 a).wf = true) : -9223372036854775808 ≤ a ∧ a ≤ 9223372036854775807 := by
  simp [Lit.wf, IntKind.min, IntKind.max, IntKind.bits, IntKind.signed] at h; omega

/-! ### FixQuarters -/
theorem quarters_end (k : Nat) (hk : 90 ≤ k) (a : Int) (ha : isAngle a = true) (b : Bool) (hb : b = false) :
    fleuronlaw02_FixQuarters.j1 k a (circle a).1 (circle a).2 b = some true := by
  subst hb
  obtain ⟨k, rfl⟩ : ∃ m, k = m + 1 := ⟨k - 1, by omega⟩
  rw [isAngle_iff] at ha
  simp only [fleuronlaw02_FixQuarters.j1]
  rw [if_neg (by decide), w64 (x := -a) (by omega) (by omega), Sine_ok k (by omega)]
  simp only [Option.bind_some]
  have hn : isAngle (-a) = true := by rw [isAngle_iff]; omega
  have hc := circle_neg a
  have hs := squares a
  have hin := circle_in a
  have hin2 := circle_in (-a)
  unfold sineS
  rw [if_pos hn]
  generalize circle (-a) = q at *
  generalize circle a = p at *
  unfold inF at hin hin2
  unfold sq2 at hs
  have m1 := mul_bd (a := p.1) (b := p.1) (A := 268435456) (B := 268435456) (by omega) (by omega)
  have m2 := mul_bd (a := p.2) (b := p.2) (A := 268435456) (B := 268435456) (by omega) (by omega)
  rw [w64 (x := q.1 + p.1) (by omega) (by omega), w64 (x := p.1 * p.1) (by omega) (by omega), w64 (x := p.2 * p.2) (by omega) (by omega), w64 (x := p.1 * p.1 + p.2 * p.2) (by omega) (by omega),
    w64 (x := p.1 * p.1 + p.2 * p.2 - 72057594037927936) (by omega) (by omega)]
  simp only
  rw [if_pos True.intro, if_neg (by omega), if_neg (by omega), if_pos (by omega), if_pos (by omega), awake_at k (by omega)]
  rfl
theorem quarters_mid (k : Nat) (hk : 92 ≤ k) (a : Int) (ha : isAngle a = true) (b : Bool) (hb : b = false) :
    fleuronlaw02_FixQuarters.j0 k a (circle a).1 (circle a).2 b = some true := by
  subst hb
  obtain ⟨k, rfl⟩ : ∃ m, k = m + 1 := ⟨k - 1, by omega⟩
  have ha' := ha
  rw [isAngle_iff] at ha'
  simp only [fleuronlaw02_FixQuarters.j0]
  rw [if_neg (by decide), w64 (x := a + 94371840) (by omega) (by omega), Sine_ok k (by omega)]
  simp only [Option.bind_some]
  have hc := circle_next a
  have hin := circle_in a
  unfold sineS
  by_cases hn : isAngle (a + 94371840) = true
  · rw [if_pos hn, hc]
    simp only
    unfold inF at hin
    rw [if_pos True.intro, if_pos True.intro, w64 (x := -(circle a).1) (by omega) (by omega)]
    exact quarters_end k (by omega) a ha _ (by simp)
  · rw [if_neg hn]
    simp only
    rw [if_neg (by decide)]
    exact quarters_end k (by omega) a ha _ rfl
theorem FixQuarters : fleuronlaw02_FixQuarters.Pure := by
  intro a wf
  refine ⟨100, ?_⟩
  unfold fleuronlaw02_FixQuarters.f
  rw [Sine_ok 100 (by omega)]
  simp only [Option.bind_some]
  by_cases ha : isAngle a = true
  · unfold sineS
    rw [if_pos ha]
    simp only
    rw [if_pos True.intro]
    by_cases hq : Int.tmod a 94371840 = 0
    · rw [if_pos hq]
      have hm : a % 94371840 = 0 := by
        have := Int.dvd_of_tmod_eq_zero hq
        omega
      obtain ⟨h1, h2⟩ := circle_quarter a hm
      have fin := fun b hb => quarters_mid 100 (by omega) a ha b hb
      rcases h1 with h1 | h1 | h1 <;> rcases h2 with h2 | h2 | h2 <;> rw [h1, h2] at fin ⊢ <;> simp only [reduceIte, Int.reduceNeg, Int.reduceEq] <;> exact fin _ (by decide)
    · rw [if_neg hq]
      exact quarters_mid 100 (by omega) a ha _ rfl
  · unfold sineS
    rw [if_neg ha]
    simp only
    rw [if_neg (by decide), if_pos True.intro, if_pos True.intro, if_pos True.intro, awake_at 100 (by omega)]
    rfl

/-! ### FixHypots -/
theorem mx_abs (a : Int) (h : isFix a = true) : mx a (wrap64 (-a)) = abs1 a := by
  have := abs_ok a h
  unfold fix_abs.f at this
  exact Option.some.inj this
theorem told_ok {n : Int} (h : (told n).2 = 0) : isFix n = true ∧ (told n).1 = n := by
  unfold told at *
  by_cases hn : isFix n = true
  · rw [if_pos hn]; exact ⟨hn, rfl⟩
  · rw [if_neg hn] at h; simp at h
theorem hypots_last (k : Nat) (hk : 90 ≤ k) (a : Int) : fleuronlaw02_FixHypots.j2 k a = some true := by
  obtain ⟨k, rfl⟩ : ∃ m, k = m + 1 := ⟨k - 1, by omega⟩
  simp only [fleuronlaw02_FixHypots.j2]
  rw [sqrt_ok k (by omega), awake_at k (by omega)]
  simp only [Option.bind_some]
  by_cases h : (sqrtS a).2 = 0
  · rw [if_pos h]
    unfold sqrtS at h ⊢
    by_cases hf : isFix a = true
    · rw [if_pos hf] at h ⊢
      by_cases h0 : a < 0
      · rw [if_pos h0] at h; simp at h
      · rw [if_neg h0] at h ⊢
        obtain ⟨h1, h2⟩ := told_ok h
        rw [h2]
        rw [isFix_iff] at hf h1
        have hn := rooted_near (a * 65536) (by omega) (by omega)
        have hb := rooted_le (a * 65536)
        generalize rooted (a * 65536) = r at *
        have m := mul_bd (a := r) (b := r) (A := 2147483647) (B := 2147483647) h1 h1
        rw [w64 (x := r * r) (by omega) (by omega), w64 (x := a * 65536) (by omega) (by omega), w64 (x := r * r - a * 65536) (by omega) (by omega), w64 (x := -r) (by omega) (by omega),
          if_neg (by omega), if_neg (by omega)]
    · rw [if_neg hf] at h; simp at h
  · rw [if_neg h]
theorem hypots_five (k : Nat) (hk : 91 ≤ k) (a s : Int) (h0 : -429496729 ≤ s) (b : Bool) (hb : b = decide (s ≤ 429496729)) : fleuronlaw02_FixHypots.j1 k a s b = some true := by
  obtain ⟨k, rfl⟩ : ∃ m, k = m + 1 := ⟨k - 1, by omega⟩
  simp only [fleuronlaw02_FixHypots.j1]
  by_cases h1 : s ≤ 429496729
  · rw [hb, decide_eq_true h1, if_pos rfl, w64 (x := 3 * s) (by omega) (by omega), w64 (x := 4 * s) (by omega) (by omega), hypot_ok k (by omega)]
    simp only [Option.bind_some]
    obtain ⟨e, l⟩ := rooted_five s h0 h1
    have f5 : isFix (5 * s) = true := by rw [isFix_iff]; omega
    have ab : isFix (abs1 (5 * s)) = true := by
      have := (abs1_sq (5 * s)).2
      rw [isFix_iff]; omega
    have hh : hypotS (3 * s) (4 * s) = (abs1 (5 * s), 0) := by
      unfold hypotS
      rw [if_pos (by rw [Bool.and_eq_true, isFix_iff, isFix_iff]; omega), e]
      unfold told
      rw [if_pos ab]
    rw [hh]
    simp only
    rw [if_pos True.intro, show (-5 : Int) * s = -(5 * s) by omega, w64 (x := 5 * s) (by omega) (by omega), mx_abs _ f5, if_pos rfl]
    exact hypots_last k (by omega) a
  · rw [hb, decide_eq_false h1, if_neg (by decide)]
    exact hypots_last k (by omega) a
theorem hypots_mid (k : Nat) (hk : 92 ≤ k) (a s : Int) : fleuronlaw02_FixHypots.j0 k a s = some true := by
  obtain ⟨k, rfl⟩ : ∃ m, k = m + 1 := ⟨k - 1, by omega⟩
  simp only [fleuronlaw02_FixHypots.j0]
  by_cases h : s ≥ -429496729
  · rw [if_pos h]
    exact hypots_five k (by omega) a s h _ rfl
  · rw [if_neg h]
    obtain ⟨k, rfl⟩ : ∃ m, k = m + 1 := ⟨k - 1, by omega⟩
    simp only [fleuronlaw02_FixHypots.j1]
    rw [if_neg (by decide)]
    exact hypots_last k (by omega) a
theorem FixHypots : fleuronlaw02_FixHypots.Pure := by
  intro a b s wa wb ws
  refine ⟨100, ?_⟩
  unfold fleuronlaw02_FixHypots.f
  rw [hypot_ok 100 (by omega)]
  simp only [Option.bind_some]
  have fin := hypots_mid 100 (by omega) a s
  by_cases h : (hypotS a b).2 = 0
  · rw [if_pos h]
    unfold hypotS at h ⊢
    by_cases hf : (isFix a && isFix b) = true
    · rw [if_pos hf] at h ⊢
      obtain ⟨h1, h2⟩ := told_ok h
      obtain ⟨ha, hb⟩ := Bool.and_eq_true_iff.1 hf
      obtain ⟨g1, g2, g3⟩ := rooted_hyp a b ha hb
      have q1 := (abs1_sq a).2
      have q2 := (abs1_sq b).2
      rw [h2, mx_abs a ha, mx_abs b hb]
      rw [isFix_iff] at ha hb
      have b1 : abs1 a ≤ 2147483647 := by unfold abs1; split <;> omega
      have b2 : abs1 b ≤ 2147483647 := by unfold abs1; split <;> omega
      rw [w64 (x := abs1 a + abs1 b) (by omega) (by omega)]
      have hm : mx (abs1 a) (abs1 b) ≤ rooted (a * a + b * b) := by unfold mx; split <;> omega
      rw [if_neg (by omega), if_neg (by omega)]
      exact fin
    · rw [if_neg hf] at h; simp at h
  · rw [if_neg h]
    exact fin

/-! ### FixTurned -/
theorem wf16 {a : Int} (h : (Lit.int .i16 a).wf = true) : -32768 ≤ a ∧ a ≤ 32767 := by
  simp [Lit.wf, IntKind.min, IntKind.max, IntKind.bits, IntKind.signed] at h; omega
/-- What the statement's own loop makes of the coordinates. -/
def turns : Nat → Int × Int → Int × Int
  | 0, p => p
  | n + 1, p => turns n (-p.2, p.1)
theorem turn_loop2 (d : Nat) : ∀ (k : Nat) (x y m u v i : Int), 90 + d ≤ k → -2147483647 ≤ x → x ≤ 2147483647 → -2147483647 ≤ y → y ≤ 2147483647 → 0 ≤ i → i ≤ 3 →
    Int.tmod (wrap64 (Int.tmod m 4 + 4)) 4 - i = d → turns d (x, y) = (u, v) → fleuronlaw02_FixTurned.l0 k x y m u v 0 i = some true := by
  induction d with
  | zero =>
    intro k x y m u v i hk hx0 hx1 hy0 hy1 hi hi3 hd ht
    obtain ⟨k, rfl⟩ : ∃ m, k = m + 1 := ⟨k - 1, by omega⟩
    simp only [fleuronlaw02_FixTurned.l0]
    simp only [turns, Prod.mk.injEq] at ht
    rw [if_neg (by omega), if_pos True.intro, if_pos ht.1.symm, if_pos ht.2.symm, awake_at k (by omega)]
    rfl
  | succ d ih =>
    intro k x y m u v i hk hx0 hx1 hy0 hy1 hi hi3 hd ht
    obtain ⟨k, rfl⟩ : ∃ m, k = m + 1 := ⟨k - 1, by omega⟩
    simp only [fleuronlaw02_FixTurned.l0]
    rw [if_pos (by omega), w64 (x := -y) (by omega) (by omega), w64 (x := i + 1) (by omega) (by omega)]
    have h4 : Int.tmod (wrap64 (Int.tmod m 4 + 4)) 4 < 4 := Int.tmod_lt_of_pos _ (by omega)
    exact ih k (-y) x m u v (i + 1) (by omega) (by omega) (by omega) hx0 hx1 (by omega) (by omega) (by omega) ht
theorem turn_quarter (x y m : Int) :
    turn2 x y (circle (m * 94371840)) = turns (m % 4).toNat (x, y) := by
  unfold circle
  rw [show m * 94371840 % 377487360 % 94371840 = 0 by omega, show (m * 94371840 % 377487360 / 94371840).toNat = (m % 4).toNat by omega, low0]
  rcases (show m % 4 = 0 ∨ m % 4 = 1 ∨ m % 4 = 2 ∨ m % 4 = 3 by omega) with e | e | e | e <;> rw [e] <;> simp only [Int.toNat_zero, Int.toNat_one, Int.reduceToNat, rot, turns, turn2, Prod.mk.injEq] <;> omega
theorem turns_fix (n : Nat) : ∀ p : Int × Int, isFix p.1 = true → isFix p.2 = true → isFix (turns n p).1 = true ∧ isFix (turns n p).2 = true := by
  induction n with
  | zero => intro p h1 h2; exact ⟨h1, h2⟩
  | succ n ih => intro p h1 h2; exact ih (-p.2, p.1) (by rw [isFix_iff] at *; omega) h1
theorem FixTurned : fleuronlaw02_FixTurned.Pure := by
  intro x y q wx wy wq
  refine ⟨200, ?_⟩
  have hq := wf16 wq
  unfold fleuronlaw02_FixTurned.f
  rw [w64 (x := q) (by omega) (by omega)]
  have hm : -10000 < Int.tmod q 10000 ∧ Int.tmod q 10000 < 10000 := by
    have := Int.tmod_lt_of_pos q (show (0 : Int) < 10000 by omega)
    have := Int.lt_tmod_of_pos q (show (0 : Int) < 10000 by omega)
    omega
  generalize Int.tmod q 10000 = m at *
  rw [w64 (x := m * 94371840) (by omega) (by omega), turn_ok 200 (by omega)]
  simp only [Option.bind_some]
  have hang : isAngle (m * 94371840) = true := by rw [isAngle_iff]; omega
  have bad : ∀ b, (isFix x && isFix y) = false → b = true → fleuronlaw02_FixTurned.j0 200 x y m (turnS x y (m * 94371840)).1 (turnS x y (m * 94371840)).2.1 (turnS x y (m * 94371840)).2.2 b = some true := by
    intro b h hb
    have e : turnS x y (m * 94371840) = (0, 0, 2) := by unfold turnS; rw [h]; rfl
    rw [e, hb]
    simp only [fleuronlaw02_FixTurned.j0]
    rw [if_pos True.intro, if_pos True.intro, if_pos True.intro, if_pos True.intro, awake_at 199 (by omega)]
    rfl
  by_cases h1 : x < -2147483647
  · rw [if_pos h1]; exact bad _ (by rw [(isFix_not x).2 (.inl h1)]; rfl) rfl
  · rw [if_neg h1]
    by_cases h2 : x > 2147483647
    · rw [if_pos h2]; exact bad _ (by rw [(isFix_not x).2 (.inr h2)]; rfl) rfl
    · rw [if_neg h2]
      by_cases h3 : y < -2147483647
      · rw [if_pos h3]; exact bad _ (by rw [(isFix_not y).2 (.inl h3), Bool.and_false]) rfl
      · rw [if_neg h3]
        by_cases h4 : y > 2147483647
        · exact bad _ (by rw [(isFix_not y).2 (.inr h4), Bool.and_false]) (decide_eq_true h4)
        · have hx : isFix x = true := by rw [isFix_iff]; omega
          have hy : isFix y = true := by rw [isFix_iff]; omega
          have hf := turns_fix (m % 4).toNat (x, y) hx hy
          have e : turnS x y (m * 94371840) = ((turns (m % 4).toNat (x, y)).1, (turns (m % 4).toNat (x, y)).2, 0) := by
            unfold turnS
            rw [hx, hy, hang, turn_quarter x y m, hf.1, hf.2]
            rfl
          rw [e, decide_eq_false h4]
          simp only [fleuronlaw02_FixTurned.j0]
          rw [if_neg (by decide)]
          have hm4 : Int.tmod (wrap64 (Int.tmod m 4 + 4)) 4 = m % 4 := by
            have e1 : Int.tmod m 4 = m % 4 ∨ (m % 4 ≠ 0 ∧ Int.tmod m 4 = m % 4 - 4) := by
              by_cases h0 : 0 ≤ m
              · left; exact Int.tmod_eq_emod_of_nonneg h0
              · have e1 : Int.tmod m 4 = -(Int.tmod (-m) 4) := by rw [← Int.neg_tmod, Int.neg_neg]
                rw [Int.tmod_eq_emod_of_nonneg (show 0 ≤ -m by omega)] at e1
                omega
            rw [w64 (by omega) (by omega), Int.tmod_eq_emod_of_nonneg (by omega)]
            omega
          exact turn_loop2 (m % 4).toNat 199 x y m _ _ 0 (by omega) (by omega) (by omega) (by omega) (by omega) (by omega) (by omega) (by rw [hm4]; omega) rfl
end Go.Proofs.YtjaifahodfljkaaDoor.Z
