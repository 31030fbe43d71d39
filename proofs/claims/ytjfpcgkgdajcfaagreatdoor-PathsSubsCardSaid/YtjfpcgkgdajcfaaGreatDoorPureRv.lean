/-
  Reverse of an open path, here and in the reference: the same; no condition but the sizes named.
-/
import Derived.Test.YtjfpcgkgdajcfaaGreatDoorPurePU
import Derived.Test.YtjfpcgkgdajcfaaGreatDoorU2
open Go Go.Ev Go.Proofs
namespace Go.Proofs.YtjfpcgkgdajcfaaGreatDoor
set_option linter.unusedSimpArgs false
set_option linter.unusedVariables false
theorem set_enc (l : List (Int × Int)) (i : Nat) (a b : Int) : (l.map encP).set i (.agg [.int .i64 a, .int .i64 b]) = (l.set i (a, b)).map encP := by
  rw [List.map_set]; rfl
theorem getD_set (l : List (Int × Int)) (i j : Nat) (x : Int × Int) (h : i < l.length) : (l.set i x).getD j (0, 0) = if i = j then x else l.getD j (0, 0) := by
  rw [List.getD_eq_getElem?_getD, List.getElem?_set]
  by_cases e : i = j
  · subst e; rw [if_pos rfl, if_pos rfl, if_pos h]; rfl
  · rw [if_neg e, if_neg e, List.getD_eq_getElem?_getD]
theorem getD_rev (l : List (Int × Int)) (q : Nat) (h : q < l.length) : l.reverse.getD q (0, 0) = l.getD (l.length - 1 - q) (0, 0) := by
  rw [List.getD_eq_getElem?_getD, List.getElem?_reverse h, List.getD_eq_getElem?_getD]
theorem eq_of_getD {a b : List (Int × Int)} (hl : a.length = b.length) (h : ∀ q, q < a.length → a.getD q (0, 0) = b.getD q (0, 0)) : a = b := by
  apply List.ext_getElem hl
  intro i h1 h2
  have := h i h1
  rw [List.getD_eq_getElem?_getD, List.getElem?_eq_getElem h1, List.getD_eq_getElem?_getD, List.getElem?_eq_getElem h2] at this
  exact this
section
variable {k : Nat}
/-- Turned around up to a place. -/
def turned (o cur : List (Int × Int)) (i : Nat) : Prop := cur.length = o.length ∧ ∀ q, q < o.length → cur.getD q (0, 0) = if q < i ∨ o.length - i ≤ q then o.getD (o.length - 1 - q) (0, 0) else o.getD q (0, 0)
theorem rev_loop (o : List (Int × Int)) (ho : o.length ≤ 1000) (h1 : 0 < o.length) : ∀ (d m i : Nat) (cur : List (Int × Int)), i + d = o.length → d < m → turned o cur i → 2 * i ≤ o.length →
    D71_2_L1 k o.length m (i : Int) ((o.length : Int) - 1 - i) (cur.map encP) = some (o.reverse.map encP) := by
  intro d
  induction d with
  | zero =>
    intro m i cur hi hm ht hq
    omega
  | succ d ih =>
    intro m i cur hi hm ht hq
    obtain ⟨m, rfl⟩ : ∃ j, m = j + 1 := ⟨m - 1, by omega⟩
    obtain ⟨hlen, hget⟩ := ht
    rw [D71_2_L1]
    by_cases hij : (i : Int) < (o.length : Int) - 1 - i
    · obtain ⟨j, hj⟩ : ∃ j, j = o.length - 1 - i := ⟨_, rfl⟩
      have hjj : (o.length : Int) - 1 - i = (j : Int) := by omega
      have hji : i < j := by omega
      have hjl : j < cur.length := by omega
      have hil : i < cur.length := by omega
      have e1 : w64 ((i : Int) + 1) = ((i + 1 : Nat) : Int) := by rw [w64_id (by omega) (by omega)]; omega
      have e2 : w64 ((j : Int) - 1) = (o.length : Int) - 1 - ((i + 1 : Nat) : Int) := by rw [w64_id (by omega) (by omega)]; omega
      rw [hjj, decide_eq_true (by omega), cond_true, decide_eq_true (by omega), asrt_true, Int.toNat_natCast, Int.toNat_natCast, Nat.zero_add, Nat.zero_add, List.length_map, decide_eq_true hjl, asrt_true, okP, decide_eq_true hjl, asrt_true, decide_eq_true (by omega), asrt_true, decide_eq_true hil, asrt_true, okP, decide_eq_true hil, asrt_true,
        set_enc, List.length_map, List.length_set, decide_eq_true hjl, asrt_true, okP, List.length_set, decide_eq_true hjl, asrt_true, set_enc, e1, e2]
      refine ih m (i + 1) _ (by omega) (by omega) ⟨by rw [List.length_set, List.length_set]; exact hlen, fun q hq2 => ?_⟩ (by omega)
      rw [getD_set _ _ _ _ (by rw [List.length_set]; exact hjl), getD_set _ _ _ _ hil]
      simp only [eI0, eI1]
      by_cases a1 : j = q
      · subst a1
        rw [if_pos rfl, if_pos (by omega), show o.length - 1 - j = i by omega]
        have := hget i (by omega)
        rw [if_neg (by omega)] at this
        rw [this]
      · rw [if_neg a1]
        by_cases a2 : i = q
        · subst a2
          rw [if_pos rfl, if_pos (by omega), show o.length - 1 - i = j by omega]
          have := hget j (by omega)
          rw [if_neg (by omega)] at this
          rw [this]
        · rw [if_neg a2, hget q hq2]
          by_cases a3 : q < i ∨ o.length - i ≤ q
          · rw [if_pos a3, if_pos (by omega)]
          · rw [if_neg a3, if_neg (by omega)]
    · rw [decide_eq_false hij, cond_false]
      congr 2
      refine eq_of_getD (by rw [hlen, List.length_reverse]) (fun q hq2 => ?_)
      rw [hlen] at hq2
      rw [getD_rev o q hq2, hget q hq2]
      by_cases a3 : q < i ∨ o.length - i ≤ q
      · rw [if_pos a3]
      · rw [if_neg a3, show o.length - 1 - q = q by omega]
theorem D71_2_eq (o : List (Int × Int)) (ho : o.length ≤ 1000) (h1 : 0 < o.length) (hk : 1001 ≤ k) : D71_2 (k + 1) o.length (o.map encP) = some (o.reverse.map encP) := by
  have e : w64 (((o.length : Nat) : Int) - 1) = (o.length : Int) - 1 - ((0 : Nat) : Int) := by rw [w64_id (by omega) (by omega)]; omega
  have := rev_loop (k := k) o ho h1 o.length k 0 o (by omega) (by omega) ⟨rfl, fun q hq => by rw [if_neg (by omega)]⟩ (by omega)
  rw [D71_2, e, show (0 : Int) = ((0 : Nat) : Int) from rfl, this]
  rfl
theorem F22_open (l : List (Int × Int)) (hl : l.length ≤ 605) (hk : 1100 ≤ k) : F22 (k + 6) false (l.map encP) false = some (if vld l false = true then (false, l.reverse.map encP, false, 0) else (true, [], false, 2)) := by
  rw [F22, F29_eq (k := k) false hl (by omega), Option.bind_some, cleanP, asrt_true]
  cases hv : vld l false with
  | false => rfl
  | true =>
    obtain ⟨hp, hn, hc, ho⟩ := vld_pos hv
    have h70 : D70_0 (k + 5) false (l.map encP) = some (.inr ()) := by
      have he : (l.map encP).isEmpty = false := by cases l with
        | nil => simp at hp
        | cons a l => rfl
      have hr := room_ok (n := 0) (a := (l.map encP).length) (b := 16) (by omega) (by rw [List.length_map]; omega) (by omega)
      rw [D70_0, cond_false, hr, asrt_true, he]
      rfl
    rw [cond_true, h70, Option.bind_some]
    show (Option.bind (D71_2 (k + 5) (0 + (l.map encP).length) ([] ++ l.map encP)) _) = _
    rw [Nat.zero_add, List.nil_append, List.length_map, D71_2_eq (k := k + 4) l (by omega) hp (by omega), Option.bind_some, cond_false, Nat.zero_add, List.length_map, List.length_reverse, decide_eq_true (by omega), asrt_true, List.drop_zero, List.take_of_length_le (by simp), cleanP, asrt_true]
    rfl
theorem F47_L2_eq (l : List (Int × Int)) (hl : l.length ≤ 605) : ∀ (i m : Nat) (b : Bool) (acc : List (Int × Int)), i < l.length → i < m → acc.length + i + 1 ≤ 1000 → (∀ q, q < acc.length → acc.getD q (0, 0) = l.getD (l.length - 1 - q) (0, 0)) → acc.length + i + 1 = l.length →
    ∃ (b' : Bool) (r : List (Int × Int)), F47_L2 k (l.map encP) m (i : Int) b (acc.map encP) = some (b', r.map encP) ∧ r.length + 1 = l.length ∧ ∀ q, q < r.length → r.getD q (0, 0) = l.getD (l.length - 1 - q) (0, 0) := by
  intro i
  induction i with
  | zero =>
    intro m b acc hi hm ha hq hs
    obtain ⟨m, rfl⟩ : ∃ j, m = j + 1 := ⟨m - 1, by omega⟩
    exact ⟨b, acc, rfl, by omega, hq⟩
  | succ i ih =>
    intro m b acc hi hm ha hq hs
    obtain ⟨m, rfl⟩ : ∃ j, m = j + 1 := ⟨m - 1, by omega⟩
    have e1 : w64 (((i + 1 : Nat) : Int) - 1) = (i : Int) := by rw [w64_id (by omega) (by omega)]; omega
    obtain ⟨b', r, h1, h2, h3⟩ := ih m false (acc ++ [((l.getD (i + 1) (0, 0)).1, (l.getD (i + 1) (0, 0)).2)]) (by omega) (by omega) (by simp; omega) (fun q hq2 => by
      simp only [List.length_append, List.length_cons, List.length_nil] at hq2
      by_cases e : q < acc.length
      · rw [List.getD_eq_getElem?_getD, List.getElem?_append_left e, ← List.getD_eq_getElem?_getD]; exact hq q e
      · rw [List.getD_eq_getElem?_getD, List.getElem?_append_right (by omega), show q - acc.length = 0 by omega, show l.length - 1 - q = i + 1 by omega]; rfl) (by simp; omega)
    refine ⟨b', r, ?_, h2, h3⟩
    rw [F47_L2, decide_eq_true (by omega), cond_true, List.length_map, decide_eq_true (by omega), asrt_true, okP, Int.toNat_natCast, decide_eq_true hi, asrt_true, List.length_map, room_ok (by omega) (by omega) (by omega), asrt_true, eI0, eI1, e1]
    have : acc.map encP ++ ([(.agg [(.int .i64 (l.getD (i + 1) (0, 0)).1), (.int .i64 (l.getD (i + 1) (0, 0)).2)])] : List AV) = (acc ++ [((l.getD (i + 1) (0, 0)).1, (l.getD (i + 1) (0, 0)).2)]).map encP := by simp [encP]
    rw [this]; exact h1
theorem F47_open (l : List (Int × Int)) (hl : l.length ≤ 605) (hk : 1100 ≤ k) : F47 (k + 3) false (l.map encP) false = some (if vld l false = true then (false, l.reverse.map encP, false, 0) else (true, [], false, 2)) := by
  rw [F47, F21_eq (k := k) false hl (by omega), Option.bind_some, cleanP, asrt_true]
  cases hv : vld l false with
  | false => rfl
  | true =>
    obtain ⟨hp, hn, hc, ho⟩ := vld_pos hv
    have e : w64 (((l.length : Nat) : Int) - 1) = ((l.length - 1 : Nat) : Int) := by rw [w64_id (by omega) (by omega)]; omega
    obtain ⟨b', r, h1, h2, h3⟩ := F47_L2_eq (k := k + 2) l hl (l.length - 1) (k + 2) true [] (by omega) (by omega) (by simp; omega) (fun q hq => by simp at hq) (by simp; omega)
    rw [List.map_nil] at h1
    rw [cond_true, cond_false, List.length_map, e, h1, Option.bind_some, decide_eq_true (by omega), asrt_true, okP, decide_eq_true hp, asrt_true, List.length_map, room_ok (by omega) (by omega) (by omega), asrt_true, eI0, eI1]
    have e2 : r.map encP ++ ([(.agg [(.int .i64 (l.getD 0 (0, 0)).1), (.int .i64 (l.getD 0 (0, 0)).2)])] : List AV) = l.reverse.map encP := by
      have : r ++ [((l.getD 0 (0, 0)).1, (l.getD 0 (0, 0)).2)] = l.reverse := by
        refine eq_of_getD (by rw [List.length_append, List.length_reverse]; exact h2) (fun q hq => ?_)
        rw [List.length_append] at hq
        simp only [List.length_cons, List.length_nil] at hq
        rw [getD_rev l q (by omega)]
        by_cases e : q < r.length
        · rw [List.getD_eq_getElem?_getD, List.getElem?_append_left e, ← List.getD_eq_getElem?_getD]; exact h3 q e
        · rw [List.getD_eq_getElem?_getD, List.getElem?_append_right (by omega), show q - r.length = 0 by omega, show l.length - 1 - q = 0 by omega]; rfl
      rw [← this]; simp [encP]
    rw [e2, cleanP, asrt_true]
    rfl
end
end Go.Proofs.YtjfpcgkgdajcfaaGreatDoor
