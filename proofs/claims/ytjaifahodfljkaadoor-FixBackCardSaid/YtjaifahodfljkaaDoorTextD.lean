/-
  Every number is read as it was written, and no shorter string with a point is read so: plain lemmas on lists of bytes.
-/
import Derived.Test.YtjaifahodfljkaaDoorTextC
namespace Go.Proofs.YtjaifahodfljkaaDoor.Z
open Go Go.RowKit Go.Proofs.YtjaifahodfljkaaDoorW.PrintWords Go.Proofs.YtjaifahodfljkaaDoorW.PrintMore

theorem numF_app (a b : List UInt8) (acc : Nat) : numF acc (a ++ b) = numF (numF acc a) b := by unfold numF; rw [List.foldl_append]
theorem dg_all (n : Nat) (h : n < 10) : isDg (UInt8.ofNat (48 + n)) = true ∧ (UInt8.ofNat (48 + n)).toNat = 48 + n := by
  have : ∀ d : Fin 10, isDg (UInt8.ofNat (48 + d.val)) = true ∧ (UInt8.ofNat (48 + d.val)).toNat = 48 + d.val := by decide
  exact this ⟨n, h⟩
theorem dec_all (n : Nat) : (Lib.decDigits n).all isDg = true ∧ num (Lib.decDigits n) = n := by
  induction n using Nat.strongRecOn with
  | _ n ih =>
    by_cases h : n < 10
    · rw [decDigits_one n h]
      obtain ⟨h1, h2⟩ := dg_all n h
      refine ⟨by rw [List.all_cons, List.all_nil, h1]; rfl, ?_⟩
      unfold num
      rw [numF_cons, numF_nil]; unfold dgStep; omega
    · rw [decDigits_ten n (by omega)]
      obtain ⟨h1, h2⟩ := dg_all (n % 10) (by omega)
      obtain ⟨i1, i2⟩ := ih (n / 10) (by omega)
      refine ⟨by simp only [List.all_append, i1, List.all_cons, h1, List.all_nil, Bool.and_self], ?_⟩
      unfold num at i2 ⊢
      rw [numF_app, i2, numF_cons, numF_nil]; unfold dgStep; omega
theorem num_rep (n : Nat) : numF 0 (List.replicate n 48) = 0 := by
  induction n with
  | zero => rfl
  | succ n ih => rw [List.replicate_succ, numF_cons]; exact ih
theorem padded_ok (d n : Nat) (h : d < 10 ^ n) (h1 : 1 ≤ n) : (padded d n).all isDg = true ∧ (padded d n).length = n ∧ num (padded d n) = d := by
  unfold padded
  obtain ⟨a1, a2⟩ := dec_all d
  have hl := decDigits_len n d h h1
  refine ⟨?_, ?_, ?_⟩
  · rw [List.all_append, a1, Bool.and_true, List.all_replicate]; simp [isDg]
  · rw [List.length_append, List.length_replicate]; omega
  · unfold num at a2 ⊢
    rw [numF_app, num_rep, a2]
theorem no_dot (w : List UInt8) (h : w.all isDg = true) : ∀ c ∈ w, (c != 46) = true := by
  intro c hc
  have := List.all_eq_true.1 h c hc
  simp only [isDg, Bool.and_eq_true, decide_eq_true_eq] at this
  rw [bne_iff_ne]
  intro e
  subst e
  have e : (46 : UInt8).toNat = 46 := rfl
  omega
theorem cut_point (w q : List UInt8) (h : w.all isDg = true) : cutS (w ++ 46 :: q) = (w, q, true) := by
  unfold cutS
  rw [List.takeWhile_append_of_pos (no_dot w h), List.dropWhile_append_of_pos (no_dot w h)]
  simp
theorem cut_plain (w : List UInt8) (h : w.all isDg = true) : cutS w = (w, [], false) := by
  have h1 := List.takeWhile_append_of_pos (l₂ := []) (no_dot w h)
  have h2 := List.dropWhile_append_of_pos (l₂ := []) (no_dot w h)
  rw [List.append_nil] at h1 h2
  unfold cutS
  rw [h1, h2]
  simp
def sg (a : Int) : List UInt8 := if a < 0 then [45] else []
theorem parse_sg (a : Int) (w r : List UInt8) (hw : w.all isDg = true) (h0 : 1 ≤ w.length) : parseS (sg a ++ (w ++ r)) = parse1 (decide (a < 0)) (w ++ r) := by
  unfold sg
  by_cases h : a < 0
  · rw [if_pos h, decide_eq_true h]; rfl
  · rw [if_neg h, decide_eq_false h, List.nil_append]
    cases w with
    | nil => simp at h0
    | cons c w =>
      rw [List.cons_append]
      unfold parseS
      split
      · rename_i x y e
        injection e with e1 e2
        subst e1
        simp [isDg] at hw
      · rfl
theorem parse1_point (neg : Bool) (w q : List UInt8) (hw : w.all isDg = true) (hw9 : w.length ≤ 9) (hq : q.all isDg = true) (hq1 : 1 ≤ q.length) (hq9 : q.length ≤ 9) : parse1 neg (w ++ 46 :: q) = readS neg w q := by
  unfold parse1
  rw [cut_point w q hw]
  simp only [if_true]
  unfold okL
  rw [hw, hq, decide_eq_true hw9, decide_eq_true hq1, decide_eq_true hq9]
  simp
theorem parse1_plain (neg : Bool) (w : List UInt8) (hw : w.all isDg = true) (h1 : 1 ≤ w.length) (hw9 : w.length ≤ 9) : parse1 neg w = readS neg w [] := by
  unfold parse1
  rw [cut_plain w hw]
  unfold okL
  rw [hw, decide_eq_true hw9, decide_eq_true h1]
  simp
theorem fracN_is (j : Nat) : ∀ (f : Int) (n : Nat), n + j = 6 → 1 ≤ n → 1 ≤ j → 0 ≤ f → f ≤ 65535 →
    ∃ m : Nat, n ≤ m ∧ m ≤ 5 ∧ fracN j f n (10 ^ n) = padded (nst f (10 ^ m)).toNat m ∧ good f (10 ^ m) = true ∧ ∀ i, n ≤ i → i < m → good f (10 ^ i) = false := by
  induction j with
  | zero => intro f n _ _ h; omega
  | succ j ih =>
    intro f n hn h1 _ h2 h3
    simp only [fracN]
    by_cases hg : good f (10 ^ n) = true
    · exact ⟨n, Nat.le_refl n, by omega, by rw [if_pos hg], hg, fun i a b => by omega⟩
    · rw [if_neg hg]
      have hj : 1 ≤ j := by
        apply Classical.byContradiction
        intro hc
        have e : n = 5 := by omega
        subst e
        exact hg (good_five f h2 h3)
      obtain ⟨m, a, b, c, d, e⟩ := ih f (n + 1) (by omega) (by omega) hj h2 h3
      refine ⟨m, by omega, b, ?_, d, fun i hi hm => ?_⟩
      · rw [← c, Int.pow_succ]
      · by_cases hin : i = n
        · subst hin; simpa using hg
        · exact e i (by omega) hm
/-- What is written. -/
theorem textS_is (a : Int) : (a.natAbs % 65536 = 0 ∧ textS a = sg a ++ (Lib.decDigits (a.natAbs / 65536) ++ [])) ∨
    (a.natAbs % 65536 ≠ 0 ∧ ∃ m : Nat, 1 ≤ m ∧ m ≤ 5 ∧ textS a = sg a ++ (Lib.decDigits (a.natAbs / 65536) ++ 46 :: padded (nst (a.natAbs % 65536 : Nat) (10 ^ m)).toNat m) ∧ good (a.natAbs % 65536 : Nat) (10 ^ m) = true ∧ ∀ i, 1 ≤ i → i < m → good (a.natAbs % 65536 : Nat) (10 ^ i) = false) := by
  unfold textS fracS sg
  by_cases h : a.natAbs % 65536 = 0
  · left
    refine ⟨h, ?_⟩
    rw [h]; rfl
  · right
    refine ⟨h, ?_⟩
    obtain ⟨m, h1, h2, h3, h4, h5⟩ := fracN_is 5 ((a.natAbs % 65536 : Nat) : Int) 1 (by omega) (by omega) (by omega) (by omega) (by omega)
    refine ⟨m, h1, h2, ?_, h4, h5⟩
    rw [if_neg (show ¬ ((a.natAbs % 65536 : Nat) : Int) = 0 by omega), ← h3]; rfl
theorem digits_lt (f : Int) (m : Nat) (h0 : 0 ≤ f) (hg : good f (10 ^ m) = true) : (nst f (10 ^ m)).toNat < 10 ^ m ∧ rnd ((nst f (10 ^ m)).toNat : Int) (10 ^ m) = f := by
  rw [good_iff] at hg
  have e : ((10 ^ m : Nat) : Int) = (10 : Int) ^ m := by simp
  have hp : (0 : Int) < 10 ^ m := Int.pow_pos (by omega)
  have h1 := nst_nonneg f (10 ^ m) hp h0
  refine ⟨by omega, ?_⟩
  rw [Int.toNat_of_nonneg h1]; exact hg.2
theorem whole_len (a : Int) (h : isFix a = true) : 1 ≤ (Lib.decDigits (a.natAbs / 65536)).length ∧ (Lib.decDigits (a.natAbs / 65536)).length ≤ 5 := by
  rw [isFix_iff] at h
  exact ⟨decDigits_pos _, decDigits_len 5 _ (by omega) (by omega)⟩
theorem rnd_none : rnd ((num [] : Nat) : Int) (10 ^ ([] : List UInt8).length) = 0 := by decide
theorem parse_textS (a : Int) (h : isFix a = true) : parseS (textS a) = (a, 0) := by
  obtain ⟨hl1, hl2⟩ := whole_len a h
  obtain ⟨d1, d2⟩ := dec_all (a.natAbs / 65536)
  have ht : told a = (a, 0) := by unfold told; rw [if_pos h]
  rcases textS_is a with ⟨h0, e⟩ | ⟨h0, m, m1, m5, e, hg, _⟩
  · rw [e, parse_sg a _ _ d1 hl1, List.append_nil, parse1_plain _ _ d1 hl1 (by omega)]
    unfold readS
    rw [rnd_none, d2, ← ht]
    congr 1
    by_cases hn : a < 0
    · rw [if_pos (decide_eq_true hn)]; omega
    · rw [if_neg (by simpa using hn)]; omega
  · obtain ⟨g1, g2⟩ := digits_lt _ m (by omega) hg
    obtain ⟨p1, p2, p3⟩ := padded_ok _ m g1 m1
    rw [e, parse_sg a _ _ d1 hl1, parse1_point _ _ _ d1 (by omega) p1 (by omega) (by omega)]
    unfold readS
    rw [p2, p3, g2, d2, ← ht]
    congr 1
    by_cases hn : a < 0
    · rw [if_pos (decide_eq_true hn)]; omega
    · rw [if_neg (by simpa using hn)]; omega
theorem told_is (x a : Int) (h : told x = (a, 0)) : x = a := by
  unfold told at h
  by_cases hx : isFix x = true
  · rw [if_pos hx] at h; injection h
  · rw [if_neg hx] at h; injection h with _ h; exact absurd h (by decide)
/-- No string of fewer digits is read so. -/
theorem short_no (a : Int) (q : List UInt8) (h : isFix a = true) (hq : q.all isDg = true) (hq1 : 1 ≤ q.length) (hq9 : q.length ≤ 9) (hb : good (a.natAbs % 65536 : Nat) (10 ^ q.length) = false) :
    parseS (sg a ++ (Lib.decDigits (a.natAbs / 65536) ++ 46 :: q)) ≠ (a, 0) := by
  obtain ⟨hl1, hl2⟩ := whole_len a h
  obtain ⟨d1, d2⟩ := dec_all (a.natAbs / 65536)
  rw [parse_sg a _ _ d1 hl1, parse1_point _ _ _ d1 (by omega) hq hq1 hq9]
  unfold readS
  intro hc
  have hx := told_is _ _ hc
  rw [d2] at hx
  have hr : rnd ((num q : Nat) : Int) (10 ^ q.length) = ((a.natAbs % 65536 : Nat) : Int) := by
    generalize rnd ((num q : Nat) : Int) (10 ^ q.length) = r at *
    by_cases hn : a < 0
    · rw [if_pos (decide_eq_true hn)] at hx; omega
    · rw [if_neg (by simpa using hn)] at hx; omega
  have hlt := numF_lt q 0 hq
  have e : ((10 ^ q.length : Nat) : Int) = (10 : Int) ^ q.length := by simp
  have hv : ((num q : Nat) : Int) < 10 ^ q.length := by
    rw [← e]
    unfold num
    have := Nat.one_mul (10 ^ q.length)
    omega
  have := good_of _ (10 ^ q.length) _ (Int.pow_pos (by omega)) (by omega) hv hr
  rw [this] at hb
  cases hb
theorem plain_no (a : Int) (h : isFix a = true) (h0 : a.natAbs % 65536 ≠ 0) : parseS (sg a ++ (Lib.decDigits (a.natAbs / 65536) ++ [])) ≠ (a, 0) := by
  obtain ⟨hl1, hl2⟩ := whole_len a h
  obtain ⟨d1, d2⟩ := dec_all (a.natAbs / 65536)
  rw [parse_sg a _ _ d1 hl1, List.append_nil, parse1_plain _ _ d1 hl1 (by omega)]
  unfold readS
  rw [rnd_none, d2]
  intro hc
  have hx := told_is _ _ hc
  by_cases hn : a < 0
  · rw [if_pos (decide_eq_true hn)] at hx; omega
  · rw [if_neg (by simpa using hn)] at hx; omega
end Go.Proofs.YtjaifahodfljkaaDoor.Z
