/-
  Reverse of a path, open or closed; no condition but the sizes named.
-/
import Derived.Test.YtjfpcgkgdajcfaaGreatDoorPurePU
open Go Go.Ev Go.Proofs
namespace Go.Proofs.YtjfpcgkgdajcfaaGreatDoor
set_option linter.unusedSimpArgs false
set_option linter.unusedVariables false
theorem set_enc (l : List (Int × Int)) (i : Nat) (a b : Int) : (l.map encP).set i (.agg [.int .i64 a, .int .i64 b]) = (l.set i (a, b)).map encP := by
  rw [List.map_set]; rfl
theorem getD_set (l : List (Int × Int)) (i j : Nat) (x : Int × Int) (h : i < l.length) : (l.set i x).getD j (0, 0) = if i = j then x else l.getD j (0, 0) := by
  rw [List.getD_eq_getElem?_getD, List.getElem?_set]
  by_cases e : i = j
  · subst e; rw [if_pos rfl, if_pos rfl, if_pos h]; rfl
  · rw [if_neg e, if_neg e, List.getD_eq_getElem?_getD]
theorem getD_rev (l : List (Int × Int)) (q : Nat) (h : q < l.length) : l.reverse.getD q (0, 0) = l.getD (l.length - 1 - q) (0, 0) := by
  rw [List.getD_eq_getElem?_getD, List.getElem?_reverse h, List.getD_eq_getElem?_getD]
theorem eq_of_getD {a b : List (Int × Int)} (hl : a.length = b.length) (h : ∀ q, q < a.length → a.getD q (0, 0) = b.getD q (0, 0)) : a = b := by
  apply List.ext_getElem hl
  intro i h1 h2
  have := h i h1
  rw [List.getD_eq_getElem?_getD, List.getElem?_eq_getElem h1, List.getD_eq_getElem?_getD, List.getElem?_eq_getElem h2] at this
  exact this
section
variable {k : Nat}
/-- Turned around up to a place. -/
def turned (o cur : List (Int × Int)) (i : Nat) : Prop := cur.length = o.length ∧ ∀ q, q < o.length → cur.getD q (0, 0) = if q < i ∨ o.length - i ≤ q then o.getD (o.length - 1 - q) (0, 0) else o.getD q (0, 0)
theorem rev_loop (o : List (Int × Int)) (ho : o.length ≤ 1000) (h1 : 0 < o.length) : ∀ (d m i : Nat) (cur : List (Int × Int)), i + d = o.length → d < m → turned o cur i → 2 * i ≤ o.length →
    D71_2_L1 k o.length m (i : Int) ((o.length : Int) - 1 - i) (cur.map encP) = some (o.reverse.map encP) := by
  intro d
  induction d with
  | zero =>
    intro m i cur hi hm ht hq
    omega
  | succ d ih =>
    intro m i cur hi hm ht hq
    obtain ⟨m, rfl⟩ : ∃ j, m = j + 1 := ⟨m - 1, by omega⟩
    obtain ⟨hlen, hget⟩ := ht
    rw [D71_2_L1]
    by_cases hij : (i : Int) < (o.length : Int) - 1 - i
    · obtain ⟨j, hj⟩ : ∃ j, j = o.length - 1 - i := ⟨_, rfl⟩
      have hjj : (o.length : Int) - 1 - i = (j : Int) := by omega
      have hji : i < j := by omega
      have hjl : j < cur.length := by omega
      have hil : i < cur.length := by omega
      have e1 : w64 ((i : Int) + 1) = ((i + 1 : Nat) : Int) := by rw [w64_id (by omega) (by omega)]; omega
      have e2 : w64 ((j : Int) - 1) = (o.length : Int) - 1 - ((i + 1 : Nat) : Int) := by rw [w64_id (by omega) (by omega)]; omega
      rw [hjj, decide_eq_true (by omega), cond_true, decide_eq_true (by omega), asrt_true, Int.toNat_natCast, Int.toNat_natCast, Nat.zero_add, Nat.zero_add, List.length_map, decide_eq_true hjl, asrt_true, okP, decide_eq_true hjl, asrt_true, decide_eq_true (by omega), asrt_true, decide_eq_true hil, asrt_true, okP, decide_eq_true hil, asrt_true,
        set_enc, List.length_map, List.length_set, decide_eq_true hjl, asrt_true, okP, List.length_set, decide_eq_true hjl, asrt_true, set_enc, e1, e2]
      refine ih m (i + 1) _ (by omega) (by omega) ⟨by rw [List.length_set, List.length_set]; exact hlen, fun q hq2 => ?_⟩ (by omega)
      rw [getD_set _ _ _ _ (by rw [List.length_set]; exact hjl), getD_set _ _ _ _ hil]
      simp only [eI0, eI1]
      by_cases a1 : j = q
      · subst a1
        rw [if_pos rfl, if_pos (by omega), show o.length - 1 - j = i by omega]
        have := hget i (by omega)
        rw [if_neg (by omega)] at this
        rw [this]
      · rw [if_neg a1]
        by_cases a2 : i = q
        · subst a2
          rw [if_pos rfl, if_pos (by omega), show o.length - 1 - i = j by omega]
          have := hget j (by omega)
          rw [if_neg (by omega)] at this
          rw [this]
        · rw [if_neg a2, hget q hq2]
          by_cases a3 : q < i ∨ o.length - i ≤ q
          · rw [if_pos a3, if_pos (by omega)]
          · rw [if_neg a3, if_neg (by omega)]
    · rw [decide_eq_false hij, cond_false]
      congr 2
      refine eq_of_getD (by rw [hlen, List.length_reverse]) (fun q hq2 => ?_)
      rw [hlen] at hq2
      rw [getD_rev o q hq2, hget q hq2]
      by_cases a3 : q < i ∨ o.length - i ≤ q
      · rw [if_pos a3]
      · rw [if_neg a3, show o.length - 1 - q = q by omega]
theorem D71_2_eq (o : List (Int × Int)) (ho : o.length ≤ 1000) (h1 : 0 < o.length) (hk : 1001 ≤ k) : D71_2 (k + 1) o.length (o.map encP) = some (o.reverse.map encP) := by
  have e : w64 (((o.length : Nat) : Int) - 1) = (o.length : Int) - 1 - ((0 : Nat) : Int) := by rw [w64_id (by omega) (by omega)]; omega
  have := rev_loop (k := k) o ho h1 o.length k 0 o (by omega) (by omega) ⟨rfl, fun q hq => by rw [if_neg (by omega)]⟩ (by omega)
  rw [D71_2, e, show (0 : Int) = ((0 : Nat) : Int) from rfl, this]
  rfl
theorem F22_open (l : List (Int × Int)) (hl : l.length ≤ 605) (hk : 1100 ≤ k) : F22 (k + 6) false (l.map encP) false = some (if vld l false = true then (false, l.reverse.map encP, false, 0) else (true, [], false, 2)) := by
  rw [F22, F29_eq (k := k) false hl (by omega), Option.bind_some, cleanP, asrt_true]
  cases hv : vld l false with
  | false => rfl
  | true =>
    obtain ⟨hp, hn, hc, ho⟩ := vld_pos hv
    have h70 : D70_0 (k + 5) false (l.map encP) = some (.inr ()) := by
      have he : (l.map encP).isEmpty = false := by cases l with
        | nil => simp at hp
        | cons a l => rfl
      have hr := room_ok (n := 0) (a := (l.map encP).length) (b := 16) (by omega) (by rw [List.length_map]; omega) (by omega)
      rw [D70_0, cond_false, hr, asrt_true, he]
      rfl
    rw [cond_true, h70, Option.bind_some]
    show (Option.bind (D71_2 (k + 5) (0 + (l.map encP).length) ([] ++ l.map encP)) _) = _
    rw [Nat.zero_add, List.nil_append, List.length_map, D71_2_eq (k := k + 4) l (by omega) hp (by omega), Option.bind_some, cond_false, Nat.zero_add, List.length_map, List.length_reverse, decide_eq_true (by omega), asrt_true, List.drop_zero, List.take_of_length_le (by simp), cleanP, asrt_true]
    rfl
theorem D97_eq {k n : Nat} (h : 0 < n) (h2 : n ≤ 1000) : D97_0 (k + 1) (n : Int) = some (.inr ()) := by
  have e : w64 ((n : Int) - 0) = (n : Int) := by rw [w64_id (by omega) (by omega)]; omega
  have he : ∀ z : AV, (List.replicate n z).isEmpty = false := fun z => by
    cases n with
    | zero => omega
    | succ n => rfl
  rw [D97_0, e, decide_eq_false (show ¬ ((n : Int) < 0) by omega), cond_false, decide_eq_true (show (0 : Int) < (n : Int) by omega), cond_true, Int.toNat_natCast, List.length_replicate,
    decide_eq_true (show 0 ≤ (n : Int) ∧ n * (16 + 1) ≤ 2 ^ 36 from ⟨by omega, by omega⟩), asrt_true, decide_eq_true (show (0 + n + 1) * (16 + 1) ≤ 2 ^ 36 by omega), asrt_true, he, cond_false,
    decide_eq_true (show (0 : Int) ≤ 0 ∧ (0 : Int) ≤ 0 ∧ (0 : Int) ≤ ((0 + n : Nat) : Int) from ⟨by omega, by omega, by omega⟩), asrt_true]
/-- Two parts of a row, one behind the other. -/
theorem D72_eq {k a n m : Nat} (R : List AV) (hn : 0 < n) (hm : 0 < m) (h1 : a + n ≤ R.length) (h2 : m ≤ R.length) (hR : R.length ≤ 1000) (hs : n + m ≤ 1000) :
    D72_0 (k + 5) a n m R = some (.inr (.inr (n + m, List.take n (List.drop a R) ++ List.take m R))) := by
  have e1 : w64 ((0 : Int) + (n : Int)) = (n : Int) := by rw [w64_id (by omega) (by omega)]; omega
  have e2 : w64 ((n : Int) + (m : Int)) = ((n + m : Nat) : Int) := by rw [w64_id (by omega) (by omega)]; omega
  have l1 : (List.take n (List.drop a R)).length = n := by rw [List.length_take, List.length_drop]; omega
  have l2 : (List.take m (List.drop 0 R)).length = m := by rw [List.length_take, List.length_drop]; omega
  have i1 : (List.take n (List.drop a R)).isEmpty = false := by
    cases h : List.take n (List.drop a R) with
    | nil => rw [h] at l1; simp at l1; omega
    | cons x l => rfl
  have i2 : (List.take m (List.drop 0 R)).isEmpty = false := by
    cases h : List.take m (List.drop 0 R) with
    | nil => rw [h] at l2; simp at l2; omega
    | cons x l => rfl
  have f : fuelN 3 (k + 4) = some (k + 1) := rfl
  rw [D72_0, f, Option.bind_some, e1, e2, decide_eq_false (show ¬ ((n : Int) < 0) by omega), cond_false, decide_eq_false (show ¬ (((n + m : Nat) : Int) < 0) by omega), cond_false,
    D97_eq (k := k + 3) (n := n + m) (by omega) hs, Option.bind_some, Sum.elim_inr, decide_eq_true h1, asrt_true, l1, i1, cond_false, l2, i2, cond_false,
    decide_eq_true (show (0 + n + 1) * (16 + 1) ≤ 2 ^ 36 by omega), asrt_true, decide_eq_true (show 0 = 0 ∧ 0 ≤ (List.replicate (w64 (((n + m : Nat) : Int) - 0)).toNat (AV.agg [.int .i64 0, .int .i64 0])).length from ⟨rfl, by omega⟩), asrt_true,
    decide_eq_true (show 0 + m ≤ R.length by omega), asrt_true, decide_eq_true (show (0 + n + m + 1) * (16 + 1) ≤ 2 ^ 36 by omega), asrt_true, List.take_zero, List.nil_append, l1,
    decide_eq_true (show 0 = 0 ∧ 0 + n ≤ n from ⟨rfl, by omega⟩), asrt_true, Nat.zero_add, List.take_of_length_le (show (List.take n (List.drop a R)).length ≤ n by omega), List.drop_zero]
/-- A closed path turned around: its first point stays. -/
def crev (l : List (Int × Int)) : List (Int × Int) := List.take 1 (List.drop (l.length - 1) l.reverse) ++ List.take (l.length - 1) l.reverse
theorem crev_len (l : List (Int × Int)) : (crev l).length = l.length := by
  unfold crev
  rw [List.length_append, List.length_take, List.length_drop, List.length_take, List.length_reverse]; omega
theorem crev_get (l : List (Int × Int)) {q : Nat} (h : q < l.length) : (crev l).getD q (0, 0) = l.getD ((l.length - q) % l.length) (0, 0) := by
  have h1 : (List.take 1 (List.drop (l.length - 1) l.reverse)).length = 1 := by rw [List.length_take, List.length_drop, List.length_reverse]; omega
  unfold crev
  rw [List.getD_eq_getElem?_getD]
  by_cases e : q = 0
  · subst e
    rw [List.getElem?_append_left (by omega), List.getElem?_take, if_pos (by omega), List.getElem?_drop, Nat.sub_zero, Nat.mod_self, List.getElem?_reverse (by omega), ← List.getD_eq_getElem?_getD]
    congr 1; omega
  · rw [List.getElem?_append_right (by omega), h1, List.getElem?_take, if_pos (by omega), List.getElem?_reverse (by omega), ← List.getD_eq_getElem?_getD, Nat.mod_eq_of_lt (by omega)]
    congr 1; omega
theorem F22_closed (l : List (Int × Int)) (hl : l.length ≤ 605) (hk : 1100 ≤ k) : F22 (k + 6) false (l.map encP) true = some (if vld l true = true then (false, (crev l).map encP, true, 0) else (true, [], false, 2)) := by
  rw [F22, F29_eq (k := k) false hl (by omega), Option.bind_some, cleanP, asrt_true]
  cases hv : vld l true with
  | false => rfl
  | true =>
    obtain ⟨hp, hn, hc, ho⟩ := vld_pos hv
    have h3 := (hc rfl).2
    have h70 : D70_0 (k + 5) false (l.map encP) = some (.inr ()) := by
      have he : (l.map encP).isEmpty = false := by cases l with
        | nil => simp at hp
        | cons a l => rfl
      have hr := room_ok (n := 0) (a := (l.map encP).length) (b := 16) (by omega) (by rw [List.length_map]; omega) (by omega)
      rw [D70_0, cond_false, hr, asrt_true, he]
      rfl
    have e : w64 ((l.length : Int) - 1) = ((l.length - 1 : Nat) : Int) := by rw [w64_id (by omega) (by omega)]; omega
    rw [cond_true, h70, Option.bind_some]
    show (Option.bind (D71_2 (k + 5) (0 + (l.map encP).length) ([] ++ l.map encP)) _) = _
    rw [Nat.zero_add, List.nil_append, List.length_map, D71_2_eq (k := k + 4) l (by omega) hp (by omega), Option.bind_some, cond_true, Nat.zero_add, e, Int.toNat_natCast,
      decide_eq_true (show 0 ≤ ((l.length - 1 : Nat) : Int) ∧ ((l.length - 1 : Nat) : Int) ≤ (l.length : Int) ∧ (l.length : Int) ≤ (l.length : Int) from ⟨by omega, by omega, by omega⟩), asrt_true,
      show (l.length - 1 == l.length) = false by rw [beq_eq_false_iff_ne]; omega, cond_false,
      decide_eq_true (show (0 : Int) ≤ 0 ∧ (0 : Int) ≤ ((l.length - 1 : Nat) : Int) ∧ ((l.length - 1 : Nat) : Int) ≤ (l.length : Int) from ⟨by omega, by omega, by omega⟩), asrt_true,
      show (0 == l.length - 1) = false by rw [beq_eq_false_iff_ne]; omega, cond_false, Nat.sub_zero,
      D72_eq (k := k) (l.reverse.map encP) (by omega) (by omega) (by rw [List.length_map, List.length_reverse]; omega) (by rw [List.length_map, List.length_reverse]; omega) (by rw [List.length_map, List.length_reverse]; omega) (by omega),
      Option.bind_some, Sum.elim_inr, Sum.elim_inr]
    have ec : List.take (l.length - (l.length - 1)) (List.drop (l.length - 1) (l.reverse.map encP)) ++ List.take (l.length - 1) (l.reverse.map encP) = (crev l).map encP := by
      unfold crev
      rw [show l.length - (l.length - 1) = 1 by omega, List.map_append, List.map_take, List.map_take, List.map_drop]
    rw [ec]
    show asrt (decide (0 + (l.length - (l.length - 1) + (l.length - 1)) ≤ ((crev l).map encP).length)) (asrt (AV.cleanL (List.take (l.length - (l.length - 1) + (l.length - 1)) (List.drop 0 ((crev l).map encP)))) (some (false, List.take (l.length - (l.length - 1) + (l.length - 1)) (List.drop 0 ((crev l).map encP)), true, 0))) = _
    rw [List.length_map, crev_len, decide_eq_true (by omega), asrt_true, List.drop_zero, List.take_of_length_le (by rw [List.length_map, crev_len]; omega), cleanP, asrt_true]
    rfl
end
end Go.Proofs.YtjfpcgkgdajcfaaGreatDoor
