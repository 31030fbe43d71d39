/-
  Several texts in one: each with its own heading.
-/
import Derived.Test.YtjfpcgkgdajcfaaGreatDoorTx1
import Derived.Test.YtjfpcgkgdajcfaaGreatDoorPurePU
import Derived.Test.YtjfpcgkgdajcfaaGreatDoorW2
/-
  Every number is read as it was written: plain lemmas on lists of bytes; no condition but the sizes named.
-/
open Go Go.Ev Go.Proofs
namespace Go.Proofs.YtjfpcgkgdajcfaaGreatDoor
set_option linter.unusedSimpArgs false
set_option linter.unusedVariables false
theorem numF_app (a b : List UInt8) (acc : Nat) : numF acc (a ++ b) = numF (numF acc a) b := by unfold numF; rw [List.foldl_append]
theorem dg_all (n : Nat) (h : n < 10) : isDg (UInt8.ofNat (48 + n)) = true ∧ (UInt8.ofNat (48 + n)).toNat = 48 + n := by
  have : ∀ d : Fin 10, isDg (UInt8.ofNat (48 + d.val)) = true ∧ (UInt8.ofNat (48 + d.val)).toNat = 48 + d.val := by decide
  exact this ⟨n, h⟩
theorem dec_all (n : Nat) : (Lib.decDigits n).all isDg = true ∧ num (Lib.decDigits n) = n := by
  induction n using Nat.strongRecOn with
  | _ n ih =>
    by_cases h : n < 10
    · rw [decDigits_one n h]
      obtain ⟨h1, h2⟩ := dg_all n h
      refine ⟨by rw [List.all_cons, List.all_nil, h1]; rfl, ?_⟩
      unfold num
      rw [numF_cons, numF_nil]; unfold dgStep; omega
    · rw [decDigits_ten n (by omega)]
      obtain ⟨h1, h2⟩ := dg_all (n % 10) (by omega)
      obtain ⟨i1, i2⟩ := ih (n / 10) (by omega)
      refine ⟨by simp only [List.all_append, i1, List.all_cons, h1, List.all_nil, Bool.and_self], ?_⟩
      unfold num at i2 ⊢
      rw [numF_app, i2, numF_cons, numF_nil]; unfold dgStep; omega
theorem num_rep (n : Nat) : numF 0 (List.replicate n 48) = 0 := by
  induction n with
  | zero => rfl
  | succ n ih => rw [List.replicate_succ, numF_cons]; exact ih
theorem padded_ok (d n : Nat) (h : d < 10 ^ n) (h1 : 1 ≤ n) : (padded d n).all isDg = true ∧ (padded d n).length = n ∧ num (padded d n) = d := by
  unfold padded
  obtain ⟨a1, a2⟩ := dec_all d
  have hl := decDigits_len n d h h1
  refine ⟨?_, ?_, ?_⟩
  · rw [List.all_append, a1, Bool.and_true, List.all_replicate]; simp [isDg]
  · rw [List.length_append, List.length_replicate]; omega
  · unfold num at a2 ⊢
    rw [numF_app, num_rep, a2]
theorem no_dot (w : List UInt8) (h : w.all isDg = true) : ∀ c ∈ w, (c != 46) = true := by
  intro c hc
  have := List.all_eq_true.1 h c hc
  simp only [isDg, Bool.and_eq_true, decide_eq_true_eq] at this
  rw [bne_iff_ne]
  intro e
  subst e
  have e : (46 : UInt8).toNat = 46 := rfl
  omega
theorem cut_point (w q : List UInt8) (h : w.all isDg = true) : cutD (w ++ 46 :: q) = (w, q, true) := by
  unfold cutD
  rw [List.takeWhile_append_of_pos (no_dot w h), List.dropWhile_append_of_pos (no_dot w h)]
  simp
theorem cut_plain (w : List UInt8) (h : w.all isDg = true) : cutD w = (w, [], false) := by
  have h1 := List.takeWhile_append_of_pos (l₂ := []) (no_dot w h)
  have h2 := List.dropWhile_append_of_pos (l₂ := []) (no_dot w h)
  rw [List.append_nil] at h1 h2
  unfold cutD
  rw [h1, h2]
  simp
def sgb (a : Int) : List UInt8 := if a < 0 then [45] else []
theorem parse_sg (a : Int) (w r : List UInt8) (hw : w.all isDg = true) (h0 : 1 ≤ w.length) : parseS (sgb a ++ (w ++ r)) = parse1 (decide (a < 0)) (w ++ r) := by
  unfold sgb
  by_cases h : a < 0
  · rw [if_pos h, decide_eq_true h]; rfl
  · rw [if_neg h, decide_eq_false h, List.nil_append]
    cases w with
    | nil => simp at h0
    | cons c w =>
      rw [List.cons_append]
      unfold parseS
      split
      · rename_i x y e
        injection e with e1 e2
        subst e1
        simp [isDg] at hw
      · rfl
theorem parse1_point (neg : Bool) (w q : List UInt8) (hw : w.all isDg = true) (hw9 : w.length ≤ 9) (hq : q.all isDg = true) (hq1 : 1 ≤ q.length) (hq9 : q.length ≤ 9) : parse1 neg (w ++ 46 :: q) = readS neg w q := by
  unfold parse1
  rw [cut_point w q hw]
  simp only [if_true]
  unfold okL
  rw [hw, hq, decide_eq_true hw9, decide_eq_true hq1, decide_eq_true hq9]
  simp
theorem parse1_plain (neg : Bool) (w : List UInt8) (hw : w.all isDg = true) (h1 : 1 ≤ w.length) (hw9 : w.length ≤ 9) : parse1 neg w = readS neg w [] := by
  unfold parse1
  rw [cut_plain w hw]
  unfold okL
  rw [hw, decide_eq_true hw9, decide_eq_true h1]
  simp
theorem fracN_is (j : Nat) : ∀ (f : Int) (n : Nat), n + j = 6 → 1 ≤ n → 1 ≤ j → 0 ≤ f → f ≤ 65535 →
    ∃ m : Nat, n ≤ m ∧ m ≤ 5 ∧ fracN j f n (10 ^ n) = padded (nst f (10 ^ m)).toNat m ∧ good f (10 ^ m) = true ∧ ∀ i, n ≤ i → i < m → good f (10 ^ i) = false := by
  induction j with
  | zero => intro f n _ _ h; omega
  | succ j ih =>
    intro f n hn h1 _ h2 h3
    simp only [fracN]
    by_cases hg : good f (10 ^ n) = true
    · exact ⟨n, Nat.le_refl n, by omega, by rw [if_pos hg], hg, fun i a b => by omega⟩
    · rw [if_neg hg]
      have hj : 1 ≤ j := by
        apply Classical.byContradiction
        intro hc
        have e : n = 5 := by omega
        subst e
        exact hg (good_five f h2 h3)
      obtain ⟨m, a, b, c, d, e⟩ := ih f (n + 1) (by omega) (by omega) hj h2 h3
      refine ⟨m, by omega, b, ?_, d, fun i hi hm => ?_⟩
      · rw [← c, Int.pow_succ]
      · by_cases hin : i = n
        · subst hin; simpa using hg
        · exact e i (by omega) hm
/-- What is written. -/
theorem textS_is (a : Int) : (a.natAbs % 65536 = 0 ∧ textS a = sgb a ++ (Lib.decDigits (a.natAbs / 65536) ++ [])) ∨
    (a.natAbs % 65536 ≠ 0 ∧ ∃ m : Nat, 1 ≤ m ∧ m ≤ 5 ∧ textS a = sgb a ++ (Lib.decDigits (a.natAbs / 65536) ++ 46 :: padded (nst (a.natAbs % 65536 : Nat) (10 ^ m)).toNat m) ∧ good (a.natAbs % 65536 : Nat) (10 ^ m) = true ∧ ∀ i, 1 ≤ i → i < m → good (a.natAbs % 65536 : Nat) (10 ^ i) = false) := by
  unfold textS fracS sgb
  by_cases h : a.natAbs % 65536 = 0
  · left
    refine ⟨h, ?_⟩
    rw [h]; rfl
  · right
    refine ⟨h, ?_⟩
    obtain ⟨m, h1, h2, h3, h4, h5⟩ := fracN_is 5 ((a.natAbs % 65536 : Nat) : Int) 1 (by omega) (by omega) (by omega) (by omega) (by omega)
    refine ⟨m, h1, h2, ?_, h4, h5⟩
    rw [if_neg (show ¬ ((a.natAbs % 65536 : Nat) : Int) = 0 by omega), ← h3]; rfl
theorem digits_lt (f : Int) (m : Nat) (h0 : 0 ≤ f) (hg : good f (10 ^ m) = true) : (nst f (10 ^ m)).toNat < 10 ^ m ∧ rnd ((nst f (10 ^ m)).toNat : Int) (10 ^ m) = f := by
  rw [good_iff] at hg
  have e : ((10 ^ m : Nat) : Int) = (10 : Int) ^ m := by simp
  have hp : (0 : Int) < 10 ^ m := Int.pow_pos (by omega)
  have h1 := nst_nonneg f (10 ^ m) hp h0
  refine ⟨by omega, ?_⟩
  rw [Int.toNat_of_nonneg h1]; exact hg.2
theorem whole_len (a : Int) (h : isFix a = true) : 1 ≤ (Lib.decDigits (a.natAbs / 65536)).length ∧ (Lib.decDigits (a.natAbs / 65536)).length ≤ 5 := by
  have h := of_decide_eq_true h
  exact ⟨decDigits_pos _, decDigits_len 5 _ (by omega) (by omega)⟩
theorem rnd_none : rnd ((num [] : Nat) : Int) (10 ^ ([] : List UInt8).length) = 0 := by decide
theorem parse_textS (a : Int) (h : isFix a = true) : parseS (textS a) = (a, 0) := by
  obtain ⟨hl1, hl2⟩ := whole_len a h
  obtain ⟨d1, d2⟩ := dec_all (a.natAbs / 65536)
  have ht : told a = (a, 0) := by unfold told; rw [if_pos h]
  rcases textS_is a with ⟨h0, e⟩ | ⟨h0, m, m1, m5, e, hg, _⟩
  · rw [e, parse_sg a _ _ d1 hl1, List.append_nil, parse1_plain _ _ d1 hl1 (by omega)]
    unfold readS
    rw [rnd_none, d2, ← ht]
    congr 1
    by_cases hn : a < 0
    · rw [if_pos (decide_eq_true hn)]; omega
    · rw [if_neg (by simpa using hn)]; omega
  · obtain ⟨g1, g2⟩ := digits_lt _ m (by omega) hg
    obtain ⟨p1, p2, p3⟩ := padded_ok _ m g1 m1
    rw [e, parse_sg a _ _ d1 hl1, parse1_point _ _ _ d1 (by omega) p1 (by omega) (by omega)]
    unfold readS
    rw [p2, p3, g2, d2, ← ht]
    congr 1
    by_cases hn : a < 0
    · rw [if_pos (decide_eq_true hn)]; omega
    · rw [if_neg (by simpa using hn)]; omega
theorem told_is (x a : Int) (h : told x = (a, 0)) : x = a := by
  unfold told at h
  by_cases hx : isFix x = true
  · rw [if_pos hx] at h; injection h
  · rw [if_neg hx] at h; injection h with _ h; exact absurd h (by decide)
end Go.Proofs.YtjfpcgkgdajcfaaGreatDoor

/-
  Cutting strings at a byte, and a point's text read back: plain lemmas on lists of bytes; no condition but the sizes named.
-/
open Go Go.Ev Go.Proofs
namespace Go.Proofs.YtjfpcgkgdajcfaaGreatDoor
set_option linter.unusedSimpArgs false
set_option linter.unusedVariables false
/-- What stands ahead of the first such byte, and behind it. -/
def cutC (c : UInt8) (l : List UInt8) : List UInt8 × List UInt8 × Bool := (l.takeWhile (· != c), (l.dropWhile (· != c)).tail, (l.dropWhile (· != c)) != [])
theorem index_c (c : UInt8) (l : List UInt8) : (l.dropWhile (· != c) = [] → Lib.index l [c] = -1) ∧ (l.dropWhile (· != c) ≠ [] → Lib.index l [c] = ((l.takeWhile (· != c)).length : Int)) := by
  induction l with
  | nil => exact ⟨fun _ => rfl, fun h => absurd rfl h⟩
  | cons b l ih =>
    unfold Lib.index
    by_cases h : b = c
    · subst h
      rw [List.dropWhile_cons_of_neg (by simp), List.takeWhile_cons_of_neg (by simp)]
      exact ⟨fun h => (by cases h), fun _ => by simp [List.isPrefixOf]⟩
    · have h2 : (b != c) = true := by simpa using h
      rw [List.dropWhile_cons_of_pos (p := fun x => x != c) h2, List.takeWhile_cons_of_pos (p := fun x => x != c) h2]
      have h3 : List.isPrefixOf [c] (b :: l) = false := by
        simp only [List.isPrefixOf, Bool.and_true]
        exact beq_eq_false_iff_ne.2 (fun e => h e.symm)
      rw [h3]
      constructor
      · intro hd
        rw [ih.1 hd]; decide
      · intro hd
        rw [ih.2 hd]
        have : ¬ ((((l.takeWhile (· != c)).length : Int) == -1) = true) := by simp
        rw [if_neg (by decide), if_neg this, List.length_cons]
        omega
theorem cut_c (c : UInt8) (l : List UInt8) : Lib.cut l [c] = cutC c l := by
  unfold Lib.cut cutC
  have hi := index_c c l
  have ht : l.takeWhile (· != c) ++ l.dropWhile (· != c) = l := List.takeWhile_append_dropWhile
  by_cases hd : l.dropWhile (· != c) = []
  · rw [hi.1 hd, if_neg (by omega), hd]
    rw [hd, List.append_nil] at ht
    rw [ht]; rfl
  · rw [hi.2 hd, if_pos (by omega)]
    have e1 := @List.take_left _ (l.takeWhile (· != c)) (l.dropWhile (· != c))
    have e2 := @List.drop_left _ (l.takeWhile (· != c)) (l.dropWhile (· != c))
    rw [ht] at e1 e2
    have e3 : l.drop ((l.takeWhile (· != c)).length + ([c] : List UInt8).length) = (l.dropWhile (· != c)).tail := by
      rw [← List.drop_drop, e2]
      cases l.dropWhile (· != c) <;> rfl
    rw [Int.toNat_natCast, e1, e3]
    simp [hd]
theorem X93_c {k : Nat} (c : UInt8) (l : List UInt8) (h : l.length ≤ 20000) : X93 (k + 1) l [c] = some (cutC c l) := by
  rw [X93, decide_eq_true (by omega), cond_true, cut_c]
/-- Ahead of the first such byte is none. -/
theorem cutC_at (c : UInt8) (w q : List UInt8) (h : ∀ x ∈ w, x ≠ c) : cutC c (w ++ c :: q) = (w, q, true) := by
  have h2 : ∀ x ∈ w, (x != c) = true := fun x hx => bne_iff_ne.2 (h x hx)
  unfold cutC
  rw [List.takeWhile_append_of_pos h2, List.dropWhile_append_of_pos h2]
  simp
theorem cutC_len (c : UInt8) (l : List UInt8) : (cutC c l).1.length ≤ l.length ∧ (cutC c l).2.1.length ≤ l.length ∧ ((cutC c l).2.2 = true → (cutC c l).2.1.length + 1 ≤ l.length) := by
  have h1 : (l.takeWhile (· != c)).length ≤ l.length := (List.takeWhile_sublist _).length_le
  have h2 : (l.dropWhile (· != c)).length ≤ l.length := (List.dropWhile_sublist _).length_le
  refine ⟨h1, ?_, fun h => ?_⟩
  · show ((l.dropWhile (· != c)).tail).length ≤ _
    rw [List.length_tail]; omega
  · show ((l.dropWhile (· != c)).tail).length + 1 ≤ _
    have h3 : (l.dropWhile (· != c) != []) = true := h
    have h4 : l.dropWhile (· != c) ≠ [] := by simpa using h3
    have := List.length_pos_iff.2 h4
    rw [List.length_tail]; omega
/-- The bytes of a number's text: a sign, digits, a point. -/
def isNb (c : UInt8) : Bool := isDg c || c == 45 || c == 46
theorem isNb_ne {c : UInt8} (h : isNb c = true) : c ≠ 40 ∧ c ≠ 41 ∧ c ≠ 44 := by
  refine ⟨?_, ?_, ?_⟩ <;> (rintro rfl; revert h; decide)
theorem textS_nb (a : Int) (h : isFix a = true) : ∀ c ∈ textS a, isNb c = true := by
  have dg : ∀ (w : List UInt8), w.all isDg = true → ∀ c ∈ w, isNb c = true := fun w hw c hc => by
    have := List.all_eq_true.1 hw c hc
    unfold isNb; rw [this]; rfl
  have sgn : ∀ c ∈ sgb a, isNb c = true := fun c hc => by
    unfold sgb at hc
    split at hc
    · simp at hc; subst hc; decide
    · cases hc
  obtain ⟨d1, d2⟩ := dec_all (a.natAbs / 65536)
  intro c hc
  rcases textS_is a with ⟨h0, e⟩ | ⟨h0, m, m1, m5, e, hg, _⟩
  · rw [e, List.append_nil, List.mem_append] at hc
    rcases hc with hc | hc
    · exact sgn c hc
    · exact dg _ d1 c hc
  · obtain ⟨g1, g2⟩ := digits_lt _ m (by omega) hg
    obtain ⟨p1, p2, p3⟩ := padded_ok _ m g1 m1
    rw [e, List.mem_append, List.mem_append, List.mem_cons] at hc
    rcases hc with hc | hc | hc | hc
    · exact sgn c hc
    · exact dg _ d1 c hc
    · subst hc; decide
    · exact dg _ p1 c hc
theorem txt_nb (a : Int) : ∀ c ∈ txt a, isNb c = true := by
  unfold txt
  split
  · rename_i h; exact textS_nb a h
  · intro c hc; cases hc
theorem trimP_app (a b : List UInt8) : trimP (b ++ a) b = a := by
  unfold trimP
  rw [List.take_left, if_pos rfl, List.drop_left]
theorem parse_txt (a : Int) (h : isFix a = true) : parseS (txt a) = (a, 0) := by
  unfold txt; rw [if_pos h]; exact parse_textS a h
/-- A point's text read back: inside of the brackets. -/
theorem cut_pt (a b : Int) (r : List UInt8) : cutC 41 (txt a ++ 44 :: (txt b ++ 41 :: r)) = (txt a ++ 44 :: txt b, r, true) := by
  have := cutC_at 41 (txt a ++ 44 :: txt b) r (fun x hx => by
    rw [List.mem_append, List.mem_cons] at hx
    rcases hx with hx | hx | hx
    · exact (isNb_ne (txt_nb a x hx)).2.1
    · subst hx; decide
    · exact (isNb_ne (txt_nb b x hx)).2.1)
  rw [← this]; simp
theorem cut_comma (a b : Int) : cutC 44 (txt a ++ 44 :: txt b) = (txt a, txt b, true) :=
  cutC_at 44 (txt a) (txt b) (fun x hx => (isNb_ne (txt_nb a x hx)).2.2)
theorem ptS_eq (a b : Int) (r : List UInt8) : ptS a b ++ r = [40] ++ (txt a ++ 44 :: (txt b ++ 41 :: r)) := by
  unfold ptS; simp
end Go.Proofs.YtjfpcgkgdajcfaaGreatDoor

/-
  A path's text, here and in the reference: the same; no condition but the sizes named.
-/
open Go Go.Ev Go.Proofs
namespace Go.Proofs.YtjfpcgkgdajcfaaGreatDoor
set_option linter.unusedSimpArgs false
set_option linter.unusedVariables false
theorem ptS_len (a b : Int) : 5 - 2 ≤ (ptS a b).length ∧ (ptS a b).length ≤ 43 := by
  have ha := txt_len a
  have hb := txt_len b
  unfold ptS
  simp only [List.length_append, List.length_cons, List.length_nil]
  omega
/-- The text of a point of a list. -/
def ptQ (l : List (Int × Int)) (i : Nat) : List UInt8 := ptS (l.getD i (0, 0)).1 (l.getD i (0, 0)).2
theorem ptQ_len (l : List (Int × Int)) (i : Nat) : (ptQ l i).length ≤ 43 := (ptS_len _ _).2
def segT (l : List (Int × Int)) (c : Bool) (q : Nat) : List UInt8 :=
  (((([46, 46, 99, 111, 110, 116, 114, 111, 108, 115, 32] : List UInt8) ++ ptQ l ((3 * q + 1) % l.length)) ++ ([32, 97, 110, 100, 32] : List UInt8)) ++ ptQ l ((3 * q + 2) % l.length)) ++ ([46, 46] : List UInt8) ++
    (bif c && decide (q + 1 = l.length / 3) then ([99, 121, 99, 108, 101] : List UInt8) else ptQ l ((3 * q + 3) % l.length))
theorem segT_len (l : List (Int × Int)) (c : Bool) (q : Nat) : (segT l c q).length ≤ 150 := by
  have h1 := ptQ_len l ((3 * q + 1) % l.length)
  have h2 := ptQ_len l ((3 * q + 2) % l.length)
  have h3 := ptQ_len l ((3 * q + 3) % l.length)
  unfold segT
  cases c && decide (q + 1 = l.length / 3) <;> simp only [List.length_append, List.length_cons, List.length_nil, cond_true, cond_false] <;> omega
/-- The texts of segments from one on. -/
def segsT (l : List (Int × Int)) (c : Bool) : Nat → Nat → List UInt8
  | _, 0 => []
  | q, d + 1 => segT l c q ++ segsT l c (q + 1) d
theorem segsT_len (l : List (Int × Int)) (c : Bool) : ∀ d q, (segsT l c q d).length ≤ 150 * d := by
  intro d
  induction d with
  | zero => intro q; simp [segsT]
  | succ d ih =>
    intro q
    have := ih (q + 1)
    have := segT_len l c q
    simp only [segsT, List.length_append]; omega
def textP (l : List (Int × Int)) (c : Bool) : List UInt8 := ptQ l 0 ++ segsT l c 0 (l.length / 3)
theorem ofB_app (a b : List UInt8) : ofBytes a ++ ofBytes b = ofBytes (a ++ b) := by unfold ofBytes; rw [List.map_append]
theorem ofB_len (a : List UInt8) : (ofBytes a).length = a.length := by unfold ofBytes; rw [List.length_map]
theorem isBX (a : List UInt8) : isBytesX (ofBytes a) = true := by
  unfold isBytesX ofBytes
  rw [List.all_map, List.all_eq_true]
  intro c _
  have := c.toNat_lt
  simp only [Function.comp]
  exact decide_eq_true (by omega)
theorem isB (a : List UInt8) : isBytes (ofBytes a) = true := by
  unfold isBytes ofBytes
  rw [List.all_map, List.all_eq_true]
  intro c _
  rfl
theorem bD (a : List UInt8) : bytesD (ofBytes a) = a := by
  unfold bytesD ofBytes
  rw [List.map_map]
  conv => rhs; rw [← List.map_id a]
  apply List.map_congr_left
  intro c _
  simp [AV.intOf]
section
variable {k : Nat} {l : List (Int × Int)} {c : Bool}
theorem D59_1_eq (a b : List UInt8) (ha : a.length ≤ 1000) (hb : b.length ≤ 100000) : D59_1 (k + 2) a (ofBytes b) = some () := by
  rw [D59_1, ofB_len, ofB_len, room_ok (by omega) (by omega) (by omega), asrt_true]
  rfl
theorem D59_0_eq (a : List UInt8) (ha : a.length ≤ 1000) (h : a ≠ []) : D59_0 (k + 2) a = some () := by
  have h2 : (ofBytes a).isEmpty = false := by
    cases a with
    | nil => exact absurd rfl h
    | cons x a => rfl
  rw [D59_0, ofB_len, room_ok (by simp) (by omega) (by omega), asrt_true, h2]
  rfl
theorem nat_beq (q n : Nat) (hn : 1 ≤ n) (hn2 : n ≤ 100000) : ((q : Int) == w64 ((n : Int) - 1)) = decide (q + 1 = n) := by
  rw [w64_id (by omega) (by omega), Bool.eq_iff_iff]
  simp only [beq_iff_eq, decide_eq_true_eq]
  omega
theorem F17_L1_eq (nl : Bool) (hl : l.length ≤ 605) (hp : 0 < l.length) (hk : k ≤ 20000) : ∀ (d m q : Nat) (acc : List UInt8), q + d = l.length / 3 → d < m → acc.length ≤ 43 + 150 * q →
    F17_L1 (k + 30) nl (l.map encP) c ((l.length / 3 : Nat) : Int) m (q : Int) (ofBytes acc) = some (ofBytes (acc ++ segsT l c q d)) := by
  intro d
  induction d with
  | zero =>
    intro m q acc hq hm ha
    obtain ⟨m, rfl⟩ : ∃ j, m = j + 1 := ⟨m - 1, by omega⟩
    rw [F17_L1, decide_eq_false (by omega), cond_false]
    simp [segsT]
  | succ d ih =>
    intro m q acc hq hm ha
    obtain ⟨m, rfl⟩ : ∃ j, m = j + 1 := ⟨m - 1, by omega⟩
    have h1 := ptQ_len l ((3 * q + 1) % l.length)
    have h2 := ptQ_len l ((3 * q + 2) % l.length)
    have h3 := ptQ_len l ((3 * q + 3) % l.length)
    have e6 : w64 ((q : Int) + 1) = ((q + 1 : Nat) : Int) := by rw [w64_id (by omega) (by omega)]; omega
    have p1 : F60 (k + 30) (sg l q).2.2.1 (sg l q).2.2.2.1 = some (ptQ l ((3 * q + 1) % l.length)) := F60_eq (k := k + 9) _ _
    have p2 : F60 (k + 30) (sg l q).2.2.2.2.1 (sg l q).2.2.2.2.2.1 = some (ptQ l ((3 * q + 2) % l.length)) := F60_eq (k := k + 9) _ _
    have p3 : F60 (k + 30) (sg l q).2.2.2.2.2.2.1 (sg l q).2.2.2.2.2.2.2 = some (ptQ l ((3 * q + 3) % l.length)) := F60_eq (k := k + 9) _ _
    have hstep : ∀ e : List UInt8, segT l c q = (((([46, 46, 99, 111, 110, 116, 114, 111, 108, 115, 32] : List UInt8) ++ ptQ l ((3 * q + 1) % l.length)) ++ ([32, 97, 110, 100, 32] : List UInt8)) ++ ptQ l ((3 * q + 2) % l.length)) ++ ([46, 46] : List UInt8) ++ e →
        F17_L1 (k + 30) nl (l.map encP) c ((l.length / 3 : Nat) : Int) m ((q + 1 : Nat) : Int) (ofBytes ((acc ++ ((((([46, 46, 99, 111, 110, 116, 114, 111, 108, 115, 32] : List UInt8) ++ ptQ l ((3 * q + 1) % l.length)) ++ ([32, 97, 110, 100, 32] : List UInt8)) ++ ptQ l ((3 * q + 2) % l.length)) ++ ([46, 46] : List UInt8))) ++ e)) = some (ofBytes (acc ++ segsT l c q (d + 1))) := fun e he => by
      have hs := segT_len l c q
      rw [List.append_assoc acc, ← he, ih m (q + 1) (acc ++ segT l c q) (by omega) (by omega) (by rw [List.length_append]; omega), List.append_assoc]
      rfl
    rw [F17_L1, decide_eq_true (by omega), cond_true, F62_eq (k := k + 24) nl q (by omega) hp, Option.bind_some, cleanP, asrt_true, p1, Option.bind_some]
    generalize hw1 : ptQ l ((3 * q + 1) % l.length) = w1 at *
    generalize hw2 : ptQ l ((3 * q + 2) % l.length) = w2 at *
    generalize hw3 : ptQ l ((3 * q + 3) % l.length) = w3 at *
    rw [sz (by omega) (by omega), asrt_true, sz (by simp; omega) (by omega), asrt_true, p2, Option.bind_some, sz (by simp; omega) (by omega), asrt_true, sz (by simp; omega) (by omega), asrt_true,
      D59_1_eq (k := k + 28) _ acc (by simp; omega) (by omega), Option.bind_some]
    cases c with
    | false =>
      rw [cond_false, p3, Option.bind_some, ofB_app, D59_1_eq (k := k + 28) _ _ (by omega) (by simp; omega), Option.bind_some, ofB_app, e6]
      exact hstep w3 (by unfold segT; rw [hw1, hw2, hw3]; rfl)
    | true =>
      rw [cond_true, F61_eq (k := k + 29) nl hl, Option.bind_some, nat_beq q _ (by omega) (by omega), e6]
      by_cases hq2 : q + 1 = l.length / 3
      · rw [decide_eq_true hq2, cond_true, ofB_app, D59_1_eq (k := k + 28) _ _ (by simp) (by simp; omega), Option.bind_some, ofB_app]
        exact hstep [99, 121, 99, 108, 101] (by unfold segT; rw [hw1, hw2, decide_eq_true hq2]; rfl)
      · rw [decide_eq_false hq2, cond_false, p3, Option.bind_some, ofB_app, D59_1_eq (k := k + 28) _ _ (by omega) (by simp; omega), Option.bind_some, ofB_app]
        exact hstep w3 (by unfold segT; rw [hw1, hw2, hw3, decide_eq_false hq2]; rfl)
/-- A path's validity, of any length. -/
theorem F29_all (nl : Bool) (hl : l.length ≤ 20000) (hk : 620 ≤ k) : F29 (k + 5) nl (l.map encP) c = some (vld l c) := by
  by_cases h : l.length ≤ 605
  · exact F29_eq nl h hk
  · have hv : vld l c = false := by
      unfold vld
      rw [decide_eq_false (show ¬ l.length ≤ 601 by omega)]; simp
    have e : w64 (((l.length : Nat) : Int).tdiv 3) = ((l.length / 3 : Nat) : Int) := by
      rw [Int.tdiv_eq_ediv_of_nonneg (by omega), w64_id (by omega) (by omega)]; omega
    rw [hv]
    unfold F29 F61
    simp only [List.length_map, tm3, e, cleanP, asrt_true, Option.bind_some]
    rw [decide_eq_true (show (200 : Int) < ((l.length / 3 : Nat) : Int) by omega)]
    cases c with
    | true =>
      rw [decide_eq_false (show ¬ ((l.length : Nat) : Int) < 3 by omega)]
      cases (((l.length % 3 : Nat) : Int) != 0) <;> rfl
    | false => cases (((l.length % 3 : Nat) : Int) != 1) <;> rfl
theorem F21_all (nl : Bool) (hl : l.length ≤ 20000) (hk : 620 ≤ k) : F21 (k + 2) nl (l.map encP) c = some (vld l c) := by
  by_cases h : l.length ≤ 605
  · exact F21_eq nl h hk
  · have hv : vld l c = false := by
      unfold vld
      rw [decide_eq_false (show ¬ l.length ≤ 601 by omega)]; simp
    rw [hv]
    unfold F21
    simp only [List.length_map, tm3]
    rw [decide_eq_true (show (601 : Int) < ((l.length : Nat) : Int) by omega)]
    cases c with
    | true =>
      rw [decide_eq_false (show ¬ ((l.length : Nat) : Int) < 3 by omega)]
      cases (((l.length % 3 : Nat) : Int) != 0) <;> rfl
    | false => cases (((l.length % 3 : Nat) : Int) != 1) <;> rfl
theorem F17_eq (nl : Bool) (hl : l.length ≤ 20000) (hk : k ≤ 15000) : F17 (k + 1000) nl (l.map encP) c = some (if vld l c = true then (textP l c, 0) else ([], 2)) := by
  rw [F17, F29_all (k := k + 994) nl hl (by omega), Option.bind_some, cleanP, asrt_true]
  cases hv : vld l c with
  | false => rfl
  | true =>
    obtain ⟨hp, hn, hc, ho⟩ := vld_pos hv
    have hl6 : l.length ≤ 601 := by
      unfold vld at hv
      simp only [Bool.and_eq_true, decide_eq_true_eq] at hv
      omega
    have hq0 := ptQ_len l 0
    have hne : ptQ l 0 ≠ [] := by
      intro e
      have := (ptS_len (l.getD 0 (0, 0)).1 (l.getD 0 (0, 0)).2).1
      rw [show ptS (l.getD 0 (0, 0)).1 (l.getD 0 (0, 0)).2 = ptQ l 0 from rfl, e] at this
      simp at this
    have p0 : F60 (k + 999) (l.getD 0 (0, 0)).1 (l.getD 0 (0, 0)).2 = some (ptQ l 0) := F60_eq (k := k + 978) _ _
    have hloop := F17_L1_eq (k := k + 969) (c := c) nl (by omega) hp (by omega) (l.length / 3) (k + 999) 0 (ptQ l 0) (by omega) (by omega) (by omega)
    have hne2 : (ofBytes (ptQ l 0 ++ segsT l c 0 (l.length / 3))).isEmpty = false := by
      cases h : ptQ l 0 with
      | nil => exact absurd h hne
      | cons x a => rfl
    have hlen := segsT_len l c (l.length / 3) 0
    rw [cond_true, List.length_map, decide_eq_true (show 0 ≤ (0 : Int) ∧ (0 : Int) < ((l.length : Nat) : Int) by omega), asrt_true, okP, decide_eq_true hp, asrt_true, eI0, eI1, p0, Option.bind_some,
      D59_0_eq (k := k + 997) _ (by omega) hne, Option.bind_some, F61_eq (k := k + 998) nl (by omega), Option.bind_some, List.nil_append]
    rw [show ((0 : Nat) : Int) = 0 from rfl] at hloop
    rw [hloop, Option.bind_some, show fuelO (k + 999) = some () from rfl, Option.bind_some, hne2, cond_false, ofB_len, decide_eq_true (by
      have : (ptQ l 0 ++ segsT l c 0 (l.length / 3)).length ≤ 100000 := by rw [List.length_append]; omega
      exact Nat.lt_of_le_of_lt this (by decide)), asrt_true, isBX, asrt_true, bD]
    rfl
end
end Go.Proofs.YtjfpcgkgdajcfaaGreatDoor

/-
  The reference's text of a path: the same; no condition but the sizes named.
-/
open Go Go.Ev Go.Proofs
namespace Go.Proofs.YtjfpcgkgdajcfaaGreatDoor
set_option linter.unusedSimpArgs false
set_option linter.unusedVariables false
section
variable {k : Nat} {l : List (Int × Int)} {c : Bool}
theorem F18_L1_eq (nl : Bool) (hl : l.length ≤ 605) (hp : 0 < l.length) (hk : k ≤ 15000) : ∀ (d m q : Nat) (acc : List UInt8), q + d = l.length / 3 → d < m → acc.length ≤ 43 + 150 * q →
    F18_L1 (k + 200) nl (l.map encP) c m (ofBytes acc) (q : Int) = some (ofBytes (acc ++ segsT l c q d)) := by
  intro d
  induction d with
  | zero =>
    intro m q acc hq hm ha
    obtain ⟨m, rfl⟩ : ∃ j, m = j + 1 := ⟨m - 1, by omega⟩
    rw [F18_L1, F61_eq (k := k + 199) nl hl, Option.bind_some, cleanP, asrt_true, decide_eq_false (by omega), cond_false]
    simp [segsT]
  | succ d ih =>
    intro m q acc hq hm ha
    obtain ⟨m, rfl⟩ : ∃ j, m = j + 1 := ⟨m - 1, by omega⟩
    have h1 := ptQ_len l ((3 * q + 1) % l.length)
    have h2 := ptQ_len l ((3 * q + 2) % l.length)
    have h3 := ptQ_len l ((3 * q + 3) % l.length)
    have e6 : w64 ((q : Int) + 1) = ((q + 1 : Nat) : Int) := by rw [w64_id (by omega) (by omega)]; omega
    have p1 : F64 (k + 200) (sg l q).2.2.1 (sg l q).2.2.2.1 = some (ptQ l ((3 * q + 1) % l.length)) := F64_eq (k := k + 89) (by omega) _ _
    have p2 : F64 (k + 200) (sg l q).2.2.2.2.1 (sg l q).2.2.2.2.2.1 = some (ptQ l ((3 * q + 2) % l.length)) := F64_eq (k := k + 89) (by omega) _ _
    have p3 : F64 (k + 200) (sg l q).2.2.2.2.2.2.1 (sg l q).2.2.2.2.2.2.2 = some (ptQ l ((3 * q + 3) % l.length)) := F64_eq (k := k + 89) (by omega) _ _
    have hstep : ∀ e : List UInt8, segT l c q = e → F18_L1 (k + 200) nl (l.map encP) c m (ofBytes (acc ++ e)) ((q + 1 : Nat) : Int) = some (ofBytes (acc ++ segsT l c q (d + 1))) := fun e he => by
      have hs := segT_len l c q
      rw [← he, ih m (q + 1) (acc ++ segT l c q) (by omega) (by omega) (by rw [List.length_append]; omega), List.append_assoc]
      rfl
    rw [F18_L1, F61_eq (k := k + 199) nl hl, Option.bind_some, cleanP, asrt_true, decide_eq_true (by omega), cond_true, F65_eq (k := k + 198) nl q (by omega) hp, Option.bind_some, p3, Option.bind_some]
    generalize hw1 : ptQ l ((3 * q + 1) % l.length) = w1 at *
    generalize hw2 : ptQ l ((3 * q + 2) % l.length) = w2 at *
    generalize hw3 : ptQ l ((3 * q + 3) % l.length) = w3 at *
    have big : ∀ e : List UInt8, e.length ≤ 1000 → decide (((ofBytes acc).length + (ofBytes e).length + 1) * (1 + 1) ≤ 2 ^ 36) = true := fun e he => by
      rw [ofB_len, ofB_len, room_ok (by omega) (by omega) (by omega)]
    cases c with
    | false =>
      rw [cond_false, p1, Option.bind_some, sz (by omega) (by omega), asrt_true, sz (by simp; omega) (by omega), asrt_true, p2, Option.bind_some, sz (by simp; omega) (by omega), asrt_true, sz (by simp; omega) (by omega), asrt_true, sz (by simp; omega) (by omega), asrt_true,
        big _ (by simp; omega), asrt_true, ofB_app, e6]
      exact hstep _ (by unfold segT; rw [hw1, hw2, hw3]; rfl)
    | true =>
      rw [cond_true, Option.bind_some, nat_beq q _ (by omega) (by omega), e6]
      by_cases hq2 : q + 1 = l.length / 3
      · rw [decide_eq_true hq2, cond_true, p1, Option.bind_some, sz (by omega) (by omega), asrt_true, sz (by simp; omega) (by omega), asrt_true, p2, Option.bind_some, sz (by simp; omega) (by omega), asrt_true, sz (by simp; omega) (by omega), asrt_true, sz (by simp; omega) (by omega), asrt_true,
          big _ (by simp; omega), asrt_true, ofB_app]
        exact hstep _ (by unfold segT; rw [hw1, hw2, decide_eq_true hq2]; rfl)
      · rw [decide_eq_false hq2, cond_false, p1, Option.bind_some, sz (by omega) (by omega), asrt_true, sz (by simp; omega) (by omega), asrt_true, p2, Option.bind_some, sz (by simp; omega) (by omega), asrt_true, sz (by simp; omega) (by omega), asrt_true, sz (by simp; omega) (by omega), asrt_true,
          big _ (by simp; omega), asrt_true, ofB_app]
        exact hstep _ (by unfold segT; rw [hw1, hw2, hw3, decide_eq_false hq2]; rfl)
theorem F18_eq (nl : Bool) (hl : l.length ≤ 20000) (hk : k ≤ 14000) : F18 (k + 1000) nl (l.map encP) c = some (if vld l c = true then (textP l c, 0) else ([], 2)) := by
  rw [F18, F21_all (k := k + 997) nl hl (by omega), Option.bind_some, cleanP, asrt_true]
  cases hv : vld l c with
  | false => rfl
  | true =>
    obtain ⟨hp, hn, hc, ho⟩ := vld_pos hv
    have hq0 := ptQ_len l 0
    have p0 : F64 (k + 999) (l.getD 0 (0, 0)).1 (l.getD 0 (0, 0)).2 = some (ptQ l 0) := F64_eq (k := k + 888) (by omega) _ _
    have hloop := F18_L1_eq (k := k + 799) (c := c) nl (by omega) hp (by omega) (l.length / 3) (k + 999) 0 (ptQ l 0) (by omega) (by omega) (by omega)
    rw [cond_true, List.length_map, decide_eq_true (show 0 ≤ (0 : Int) ∧ (0 : Int) < ((l.length : Nat) : Int) by omega), asrt_true, okP, decide_eq_true hp, asrt_true, eI0, eI1, p0, Option.bind_some]
    rw [show ((0 : Nat) : Int) = 0 from rfl] at hloop
    rw [hloop, Option.bind_some, isB, asrt_true, bD]
    rfl
end
end Go.Proofs.YtjfpcgkgdajcfaaGreatDoor

/-
  The package reads a path's text as the path, and answers for every string; no condition but the sizes named.
-/
open Go Go.Ev Go.Proofs
namespace Go.Proofs.YtjfpcgkgdajcfaaGreatDoor
set_option linter.unusedSimpArgs false
set_option linter.unusedVariables false
theorem trimP_len (a b : List UInt8) : (trimP a b).length ≤ a.length := by
  unfold trimP
  split
  · rw [List.length_drop]; omega
  · omega
/-- A point with which a string begins, as the package reads it. -/
def ptP (s : List UInt8) : Int × Int × List UInt8 × Bool :=
  ((parseS (cutC 44 (cutC 41 (trimP s [40])).1).1).1, (parseS (cutC 44 (cutC 41 (trimP s [40])).1).2.1).1, (cutC 41 (trimP s [40])).2.1,
    (cutC 41 (trimP s [40])).2.2 && ((cutC 44 (cutC 41 (trimP s [40])).1).2.2 && (((parseS (cutC 44 (cutC 41 (trimP s [40])).1).1).2 == 0) && ((parseS (cutC 44 (cutC 41 (trimP s [40])).1).2.1).2 == 0))))
theorem ptP_len (s : List UInt8) : (ptP s).2.2.1.length ≤ s.length ∧ ((ptP s).2.2.2 = true → (ptP s).2.2.1.length + 1 ≤ s.length) := by
  have h1 := trimP_len s [40]
  obtain ⟨_, h2, h3⟩ := cutC_len 41 (trimP s [40])
  unfold ptP
  simp only
  refine ⟨by omega, fun h => ?_⟩
  rw [Bool.and_eq_true] at h
  have := h3 h.1
  omega
section
variable {k : Nat}
theorem F66_eq (s : List UInt8) (hs : s.length ≤ 10000) : F66 (k + 24) s = some (ptP s) := by
  have h1 := trimP_len s [40]
  obtain ⟨h2, _, _⟩ := cutC_len 41 (trimP s [40])
  obtain ⟨h3, h4, _⟩ := cutC_len 44 (cutC 41 (trimP s [40])).1
  rw [F66, F67_eq (k := k + 20), Option.bind_some, X93_c (k := k + 22) 41 _ (by omega), Option.bind_some, X93_c (k := k + 22) 44 _ (by omega), Option.bind_some, F94_eq (k := k + 3) _ (by omega), Option.bind_some, F94_eq (k := k + 3) _ (by omega), Option.bind_some]
  unfold ptP
  generalize cutC 41 (trimP s [40]) = u at *
  generalize cutC 44 u.1 = v at *
  generalize parseS v.1 = x
  generalize parseS v.2.1 = y
  cases u.2.2 <;> cases v.2.2 <;> cases (x.2 == 0) <;> rfl
/-- A point's text is read. -/
theorem F66_pt (a b : Int) (r : List UInt8) (ha : isFix a = true) (hb : isFix b = true) (hs : (ptS a b ++ r).length ≤ 20000) : F66 (k + 24) (ptS a b ++ r) = some (a, b, r, true) := by
  have hl1 := txt_len a
  have hl2 := txt_len b
  rw [List.length_append] at hs
  have hp := (ptS_len a b).1
  have e := ptS_eq a b r
  have hlen : (txt a ++ 44 :: (txt b ++ 41 :: r)).length ≤ 20000 := by
    have := congrArg List.length e
    simp only [List.length_append, List.length_cons, List.length_nil] at this hs ⊢
    omega
  rw [F66, F67_eq (k := k + 20), Option.bind_some, e, trimP_app, X93_c (k := k + 22) 41 _ hlen, Option.bind_some, cut_pt, X93_c (k := k + 22) 44 _ (by simp; omega), Option.bind_some, cut_comma, F94_eq (k := k + 3) _ (by simp only; omega), Option.bind_some, F94_eq (k := k + 3) _ (by simp only; omega), Option.bind_some]
  simp only [parse_txt a ha, parse_txt b hb]
  rfl
theorem enc_app2 (pts : List (Int × Int)) (a b c d : Int) : pts.map encP ++ ([(.agg [(.int .i64 a), (.int .i64 b)]), (.agg [(.int .i64 c), (.int .i64 d)])] : List AV) = (pts ++ [(a, b), (c, d)]).map encP := by simp [encP]
theorem enc_app1 (pts : List (Int × Int)) (a b : Int) : pts.map encP ++ ([(.agg [(.int .i64 a), (.int .i64 b)])] : List AV) = (pts ++ [(a, b)]).map encP := by simp [encP]
theorem enc_one (a b : Int) : ([(.agg [(.int .i64 a), (.int .i64 b)])] : List AV) = [(a, b)].map encP := rfl
/-- Reading ends. -/
theorem F19_L1_ex : ∀ (N m : Nat) (s : List UInt8) (o : Bool) (pts : List (Int × Int)), s.length ≤ N → N ≤ 10000 → N + 1 < m → pts.length + 3 * N ≤ 100000 →
    ∃ (o' : Bool) (pts' : List (Int × Int)) (c' : Bool), F19_L1 (k + 30) m s o (pts.map encP) = some (o', pts'.map encP, c') ∧ pts'.length ≤ pts.length + 3 * N + 3 := by
  intro N
  induction N using Nat.strongRecOn with
  | _ N ih =>
    intro m s o pts hs hN hm hp
    obtain ⟨m, rfl⟩ : ∃ j, m = j + 1 := ⟨m - 1, by omega⟩
    rw [F19_L1]
    cases o with
    | false => exact ⟨false, pts, false, rfl, by omega⟩
    | true =>
      rw [cond_true]
      by_cases hn : s = []
      · subst hn
        exact ⟨true, pts, false, rfl, by omega⟩
      · have hn2 : (s != ([] : List UInt8)) = true := by simpa using hn
        rw [hn2, cond_true, F67_eq (k := k + 27), Option.bind_some]
        have t1 := trimP_len s [46, 46, 99, 111, 110, 116, 114, 111, 108, 115, 32]
        rw [F66_eq (k := k + 6) _ (by omega), Option.bind_some]
        obtain ⟨q1, q2⟩ := ptP_len (trimP s [46, 46, 99, 111, 110, 116, 114, 111, 108, 115, 32])
        generalize ptP (trimP s [46, 46, 99, 111, 110, 116, 114, 111, 108, 115, 32]) = u at *
        cases hu : u.2.2.2 with
        | false => exact ⟨false, pts, false, rfl, by omega⟩
        | true =>
          have q2 := q2 hu
          rw [cond_true, F67_eq (k := k + 27), Option.bind_some]
          have t2 := trimP_len u.2.2.1 [32, 97, 110, 100, 32]
          rw [F66_eq (k := k + 6) _ (by omega), Option.bind_some]
          obtain ⟨q3, q4⟩ := ptP_len (trimP u.2.2.1 [32, 97, 110, 100, 32])
          generalize ptP (trimP u.2.2.1 [32, 97, 110, 100, 32]) = v at *
          cases hv : v.2.2.2 with
          | false => exact ⟨false, pts, false, rfl, by omega⟩
          | true =>
            have q4 := q4 hv
            rw [cond_true, List.length_map, room_ok (by omega) (by omega) (by omega), asrt_true, enc_app2]
            cases hc : (v.2.2.1 == ([46, 46, 99, 121, 99, 108, 101] : List UInt8)) with
            | true => exact ⟨true, _, true, rfl, by simp; omega⟩
            | false =>
              rw [cond_false, F67_eq (k := k + 27), Option.bind_some]
              have t3 := trimP_len v.2.2.1 [46, 46]
              rw [F66_eq (k := k + 6) _ (by omega), Option.bind_some]
              obtain ⟨q5, _⟩ := ptP_len (trimP v.2.2.1 [46, 46])
              generalize ptP (trimP v.2.2.1 [46, 46]) = w at *
              rw [List.length_map, room_ok (by simp; omega) (by omega) (by omega), asrt_true, enc_app1]
              obtain ⟨o', pts', c', e1, e2⟩ := ih (N - 2) (by omega) m w.2.2.1 w.2.2.2 (pts ++ [(u.1, u.2.1), (v.1, v.2.1)] ++ [(w.1, w.2.1)]) (by omega) (by omega) (by omega) (by simp; omega)
              refine ⟨o', pts', c', e1, ?_⟩
              simp only [List.length_append, List.length_cons, List.length_nil] at e2
              omega
/-- All points of a list are numbers that can be written. -/
def ptsOk (l : List (Int × Int)) : Prop := ∀ i, isFix (l.getD i (0, 0)).1 = true ∧ isFix (l.getD i (0, 0)).2 = true
theorem plc_fix {l : List (Int × Int)} (h : l.all plc = true) : ptsOk l := by
  intro i
  have key : plc (l.getD i (0, 0)) = true := by
    rw [List.getD_eq_getElem?_getD]
    cases hi : l[i]? with
    | none => rfl
    | some x => exact List.all_eq_true.1 h x (List.mem_of_getElem? hi)
  have := of_decide_eq_true key
  exact ⟨decide_eq_true (by omega), decide_eq_true (by omega)⟩
theorem take_three (l : List (Int × Int)) (q : Nat) (h : 3 * q + 3 < l.length) : l.take (3 * q + 1) ++ [((l.getD (3 * q + 1) (0, 0)).1, (l.getD (3 * q + 1) (0, 0)).2), ((l.getD (3 * q + 2) (0, 0)).1, (l.getD (3 * q + 2) (0, 0)).2)] ++ [((l.getD (3 * q + 3) (0, 0)).1, (l.getD (3 * q + 3) (0, 0)).2)] = l.take (3 * (q + 1) + 1) := by
  have e : ∀ i, i < l.length → l.take i ++ [((l.getD i (0, 0)).1, (l.getD i (0, 0)).2)] = l.take (i + 1) := fun i hi => by
    rw [List.take_succ_eq_append_getElem hi, List.getD_eq_getElem?_getD, List.getElem?_eq_getElem hi]; rfl
  rw [show 3 * (q + 1) + 1 = 3 * q + 3 + 1 by omega, ← e _ h, ← e (3 * q + 2) (by omega), ← e (3 * q + 1) (by omega)]
  simp
theorem take_two (l : List (Int × Int)) (q : Nat) (h : 3 * q + 2 < l.length) : l.take (3 * q + 1) ++ [((l.getD (3 * q + 1) (0, 0)).1, (l.getD (3 * q + 1) (0, 0)).2), ((l.getD (3 * q + 2) (0, 0)).1, (l.getD (3 * q + 2) (0, 0)).2)] = l.take (3 * q + 3) := by
  have e : ∀ i, i < l.length → l.take i ++ [((l.getD i (0, 0)).1, (l.getD i (0, 0)).2)] = l.take (i + 1) := fun i hi => by
    rw [List.take_succ_eq_append_getElem hi, List.getD_eq_getElem?_getD, List.getElem?_eq_getElem hi]; rfl
  rw [show 3 * q + 3 = 3 * q + 2 + 1 by omega, ← e (3 * q + 2) (by omega), ← e (3 * q + 1) (by omega)]
  simp
theorem F19_L1_rt {l : List (Int × Int)} {c : Bool} (hf : ptsOk l) (hc : c = true → l.length % 3 = 0) (ho : c = false → l.length % 3 = 1) (hl : l.length ≤ 605) : ∀ (d m q : Nat), q + d = l.length / 3 → (c = true → 1 ≤ d) → d < m → (segsT l c q d).length ≤ 20000 →
    F19_L1 (k + 30) m (segsT l c q d) true ((l.take (3 * q + 1)).map encP) = some (true, l.map encP, c) := by
  intro d
  induction d with
  | zero =>
    intro m q hq h1 hm _
    obtain ⟨m, rfl⟩ : ∃ j, m = j + 1 := ⟨m - 1, by omega⟩
    cases c with
    | true => have := h1 rfl; omega
    | false =>
      have := ho rfl
      rw [F19_L1, List.take_of_length_le (by omega)]
      rfl
  | succ d ih =>
    intro m q hq h1 hm hlen
    obtain ⟨m, rfl⟩ : ∃ j, m = j + 1 := ⟨m - 1, by omega⟩
    have hq3 : 3 * q + 2 < l.length := by omega
    have m1 : (3 * q + 1) % l.length = 3 * q + 1 := Nat.mod_eq_of_lt (by omega)
    have m2 : (3 * q + 2) % l.length = 3 * q + 2 := Nat.mod_eq_of_lt (by omega)
    have lens : (segT l c q ++ segsT l c (q + 1) d).length ≤ 20000 := hlen
    have es : segsT l c q (d + 1) = ([46, 46, 99, 111, 110, 116, 114, 111, 108, 115, 32] : List UInt8) ++ (ptQ l (3 * q + 1) ++ (([32, 97, 110, 100, 32] : List UInt8) ++ (ptQ l (3 * q + 2) ++ (([46, 46] : List UInt8) ++ ((bif c && decide (q + 1 = l.length / 3) then ([99, 121, 99, 108, 101] : List UInt8) else ptQ l ((3 * q + 3) % l.length)) ++ segsT l c (q + 1) d))))) := by
      show segT l c q ++ segsT l c (q + 1) d = _
      unfold segT
      rw [m1, m2]
      simp only [List.append_assoc]
    have hle : (([46, 46, 99, 111, 110, 116, 114, 111, 108, 115, 32] : List UInt8) ++ (ptQ l (3 * q + 1) ++ (([32, 97, 110, 100, 32] : List UInt8) ++ (ptQ l (3 * q + 2) ++ (([46, 46] : List UInt8) ++ ((bif c && decide (q + 1 = l.length / 3) then ([99, 121, 99, 108, 101] : List UInt8) else ptQ l ((3 * q + 3) % l.length)) ++ segsT l c (q + 1) d)))))).length ≤ 20000 := by rw [← es]; exact hlen
    generalize hX : (bif c && decide (q + 1 = l.length / 3) then ([99, 121, 99, 108, 101] : List UInt8) else ptQ l ((3 * q + 3) % l.length)) ++ segsT l c (q + 1) d = X at *
    simp only [List.length_append, List.length_cons, List.length_nil] at hle
    have f1 := hf (3 * q + 1)
    have f2 := hf (3 * q + 2)
    have f3 := hf (3 * q + 3)
    rw [es, F19_L1, cond_true, show (([46, 46, 99, 111, 110, 116, 114, 111, 108, 115, 32] : List UInt8) ++ (ptQ l (3 * q + 1) ++ (([32, 97, 110, 100, 32] : List UInt8) ++ (ptQ l (3 * q + 2) ++ (([46, 46] : List UInt8) ++ X)))) != ([] : List UInt8)) = true from rfl, cond_true, F67_eq (k := k + 27), Option.bind_some, trimP_app]
    rw [show ptQ l (3 * q + 1) = ptS (l.getD (3 * q + 1) (0, 0)).1 (l.getD (3 * q + 1) (0, 0)).2 from rfl, F66_pt (k := k + 6) _ _ _ f1.1 f1.2 (by
      simp only [List.length_append, List.length_cons, List.length_nil, ptQ] at hle ⊢; omega), Option.bind_some, cond_true, F67_eq (k := k + 27), Option.bind_some, trimP_app]
    rw [show ptQ l (3 * q + 2) = ptS (l.getD (3 * q + 2) (0, 0)).1 (l.getD (3 * q + 2) (0, 0)).2 from rfl, F66_pt (k := k + 6) _ _ _ f2.1 f2.2 (by
      simp only [List.length_append, List.length_cons, List.length_nil, ptQ] at hle ⊢; omega), Option.bind_some, cond_true, List.length_map, room_ok (by rw [List.length_take]; omega) (by omega) (by omega), asrt_true, enc_app2, take_two l q hq3]
    by_cases hlast : (c && decide (q + 1 = l.length / 3)) = true
    · rw [hlast, cond_true] at hX
      rw [Bool.and_eq_true, decide_eq_true_eq] at hlast
      have hd : d = 0 := by omega
      subst hd
      have hX2 : X = ([99, 121, 99, 108, 101] : List UInt8) := by rw [← hX]; rfl
      have hc3 := hc hlast.1
      rw [hX2, List.take_of_length_le (by omega), hlast.1]
      rfl
    · have hcf : (c && decide (q + 1 = l.length / 3)) = false := by simpa using hlast
      have h33 : 3 * q + 3 < l.length := by
        cases c with
        | false => have := ho rfl; omega
        | true =>
          have := hc rfl
          have : q + 1 ≠ l.length / 3 := by simpa using hcf
          omega
      rw [hcf, cond_false, Nat.mod_eq_of_lt h33] at hX
      have hne : (([46, 46] : List UInt8) ++ X == ([46, 46, 99, 121, 99, 108, 101] : List UInt8)) = false := by
        rw [← hX]
        unfold ptQ ptS
        simp only [List.append_assoc]
        rfl
      have hX3 : X.length ≤ 20000 := by omega
      rw [hne, cond_false, F67_eq (k := k + 27), Option.bind_some, trimP_app, ← hX, show ptQ l (3 * q + 3) = ptS (l.getD (3 * q + 3) (0, 0)).1 (l.getD (3 * q + 3) (0, 0)).2 from rfl, F66_pt (k := k + 6) _ _ _ f3.1 f3.2 (by
        rw [← hX] at hX3; exact hX3), Option.bind_some, List.length_map, room_ok (by rw [List.length_take]; omega) (by omega) (by omega), asrt_true, enc_app1, ← take_two l q hq3, take_three l q h33]
      refine ih m (q + 1) (by omega) (fun hct => ?_) (by omega) ?_
      · rw [hct, Bool.true_and, decide_eq_false_iff_not] at hcf; omega
      · rw [List.length_append] at lens; omega
/-- What the package reads: the path whose text it is, or nothing. -/
theorem F19_yes {l : List (Int × Int)} {c : Bool} (hv : vld l c = true) (hs : (textP l c).length ≤ 20000) (hk : k ≤ 13000) : F19 (k + 1001) (textP l c) = some (false, l.map encP, c, 0) := by
  obtain ⟨hp, hn, hc, ho⟩ := vld_pos hv
  have hpl : ptsOk l := by
    unfold vld at hv
    rw [Bool.and_eq_true] at hv
    exact plc_fix hv.2
  have h0 := hpl 0
  have hs2 : (ptS (l.getD 0 (0, 0)).1 (l.getD 0 (0, 0)).2 ++ segsT l c 0 (l.length / 3)).length ≤ 20000 := hs
  have hloop := F19_L1_rt (k := k + 970) hpl (fun h => (hc h).1) ho (by omega) (l.length / 3) (k + 1000) 0 (by omega) (fun h => by have := hc h; omega) (by omega) (by rw [List.length_append] at hs2; omega)
  have e1 : l.take (3 * 0 + 1) = [l.getD 0 (0, 0)] := by
    cases l with
    | nil => simp at hp
    | cons a l => rfl
  rw [e1] at hloop
  rw [F19, decide_eq_false (show ¬ (20000 : Int) < (((textP l c).length : Nat) : Int) by omega), cond_false]
  have ht : textP l c = ptS (l.getD 0 (0, 0)).1 (l.getD 0 (0, 0)).2 ++ segsT l c 0 (l.length / 3) := rfl
  rw [ht, F66_pt (k := k + 976) _ _ _ h0.1 h0.2 hs2, Option.bind_some, enc_one, hloop, Option.bind_some, F17_eq (k := k) false (by omega) (by omega), Option.bind_some, cleanP, asrt_true, hv, if_pos rfl, ht]
  simp
theorem F19_no {s : List UInt8} (hs : s.length ≤ 3000) (h : ∀ l c, vld l c = true → textP l c ≠ s) (hk : k ≤ 10000) : F19 (k + 4001) s = some (true, [], false, 30) := by
  rw [F19, decide_eq_false (show ¬ (20000 : Int) < ((s.length : Nat) : Int) by omega), cond_false, F66_eq (k := k + 3976) s (by omega), Option.bind_some, enc_one]
  obtain ⟨q1, _⟩ := ptP_len s
  obtain ⟨o', pts', c', e1, e2⟩ := F19_L1_ex (k := k + 3970) s.length (k + 4000) (ptP s).2.2.1 (ptP s).2.2.2 [((ptP s).1, (ptP s).2.1)] q1 (by omega) (by omega) (by simp; omega)
  rw [e1, Option.bind_some, F17_eq (k := k + 3000) false (by simp at e2; omega) (by omega), Option.bind_some, cleanP, asrt_true]
  cases o' with
  | false => rfl
  | true =>
    cases hv : vld pts' c' with
    | false => rfl
    | true =>
      have hne : (textP pts' c' != s) = true := by simpa using h pts' c' hv
      simp [hne]
end
end Go.Proofs.YtjfpcgkgdajcfaaGreatDoor

/-
  The reference's reading of a number, as it stands at this seat: the same as the package's; no condition but the sizes named.
-/
open Go Go.Ev Go.Proofs
namespace Go.Proofs.YtjfpcgkgdajcfaaGreatDoor
set_option linter.unusedSimpArgs false
set_option linter.unusedVariables false
/-- Where the first point is. -/
def findL (l : List UInt8) : Nat → Int → Option Int
  | 0, _ => none
  | m + 1, x => (bif (decide (x < ((l.length : Nat) : Int))) then (asrt (decide (0 ≤ x ∧ x < ((l.length : Nat) : Int))) (bif ((((l.getD (Int.toNat x) 0).toNat : Nat) : Int) != (46 : Int)) then (findL l m (w64 (x + (1 : Int)))) else (some x))) else (some x))
def powL (l : List UInt8) : Nat → Int → Int → Option Int
  | 0, _, _ => none
  | m + 1, x, i => (bif (decide (i < ((l.length : Nat) : Int))) then (powL l m (w64 (x * (10 : Int))) (w64 (i + (1 : Int)))) else (some x))
section
variable {k : Nat} (a : List UInt8)
theorem L1_is : F96_L1 k a = findL (sub 1 a.length a) := by
  funext m
  induction m with
  | zero => rfl
  | succ m ih => funext x; rw [F96_L1, findL, ih]
theorem L5_is : F96_L5 k a = findL a := by
  funext m
  induction m with
  | zero => rfl
  | succ m ih => funext x; rw [F96_L5, findL, ih]
theorem L9_is : F96_L9 k a = findL a := by
  funext m
  induction m with
  | zero => rfl
  | succ m ih => funext x; rw [F96_L9, findL, ih]
theorem L2_is : F96_L2 k a = powL (sub 1 a.length a) := by
  funext m
  induction m with
  | zero => rfl
  | succ m ih => funext x i; rw [F96_L2, powL, ih]
theorem L3_is : F96_L3 k a = powL (sub 1 a.length a) := by
  funext m
  induction m with
  | zero => rfl
  | succ m ih => funext x i; rw [F96_L3, powL, ih]
theorem L4_is : F96_L4 k a = powL (sub 1 a.length a) := by
  funext m
  induction m with
  | zero => rfl
  | succ m ih => funext x i; rw [F96_L4, powL, ih]
theorem L6_is : F96_L6 k a = powL a := by
  funext m
  induction m with
  | zero => rfl
  | succ m ih => funext x i; rw [F96_L6, powL, ih]
theorem L7_is : F96_L7 k a = powL a := by
  funext m
  induction m with
  | zero => rfl
  | succ m ih => funext x i; rw [F96_L7, powL, ih]
theorem L8_is : F96_L8 k a = powL a := by
  funext m
  induction m with
  | zero => rfl
  | succ m ih => funext x i; rw [F96_L8, powL, ih]
theorem L10_is : F96_L10 k a = powL a := by
  funext m
  induction m with
  | zero => rfl
  | succ m ih => funext x i; rw [F96_L10, powL, ih]
theorem L11_is : F96_L11 k a = powL a := by
  funext m
  induction m with
  | zero => rfl
  | succ m ih => funext x i; rw [F96_L11, powL, ih]
theorem L12_is : F96_L12 k a = powL a := by
  funext m
  induction m with
  | zero => rfl
  | succ m ih => funext x i; rw [F96_L12, powL, ih]
end
/-- Behind the number ahead of the point. -/
def tailN (k : Nat) (sgn : Int → Int) (l : List UInt8) (r18 base : Int) : Option (Int × Int) :=
  (bif (decide (r18 < ((l.length : Nat) : Int))) then (asrt (decide (0 ≤ (w64 (r18 + (1 : Int))) ∧ (w64 (r18 + (1 : Int))) ≤ ((l.length : Nat) : Int) ∧ ((l.length : Nat) : Int) ≤ ((l.length : Nat) : Int))) (Option.bind (F120 k (sub (Int.toNat (w64 (r18 + (1 : Int)))) l.length l)) fun r30 => (bif (decide (r30 < (0 : Int))) then (some ((0 : Int), (30 : Int))) else (Option.bind (powL l k (1 : Int) (w64 (r18 + (1 : Int)))) (fun r41 => (Option.bind (F114 k (w64 (r30 * (65536 : Int))) r41) fun r46 => (Option.bind (F118 k (sgn (w64 (base + r46)))) fun r48 => (some (r48.1, r48.2)))))))))
    else (Option.bind (F114 k (0 : Int) (1 : Int)) fun r50 => (Option.bind (F118 k (sgn (w64 (base + r50)))) fun r52 => (some (r52.1, r52.2)))))
def tailR (k : Nat) (sgn : Int → Int) (l : List UInt8) (r18 : Int) : Option (Int × Int) :=
  (bif (decide ((0 : Int) < r18)) then (asrt (decide (0 ≤ (0 : Int) ∧ (0 : Int) ≤ r18 ∧ r18 ≤ ((l.length : Nat) : Int))) (Option.bind (F120 k (sub 0 (Int.toNat r18) l)) fun r25 => (bif (decide (r25 < (0 : Int))) then (some ((0 : Int), (30 : Int))) else tailN k sgn l r18 (w64 (r25 * (65536 : Int))))))
    else (bif (r18 == ((l.length : Nat) : Int)) then (asrt (decide (0 ≤ (0 : Int) ∧ (0 : Int) ≤ r18 ∧ r18 ≤ ((l.length : Nat) : Int))) (Option.bind (F120 k (sub 0 (Int.toNat r18) l)) fun r56 => (bif (decide (r56 < (0 : Int))) then (some ((0 : Int), (30 : Int))) else tailN k sgn l r18 (w64 (r56 * (65536 : Int))))))
      else tailN k sgn l r18 0))
theorem F96_is (k : Nat) (a : List UInt8) : F96 (k + 1) a = (bif (decide ((0 : Int) < ((a.length : Nat) : Int))) then (asrt (decide (0 ≤ (0 : Int) ∧ (0 : Int) < ((a.length : Nat) : Int))) (bif ((((a.getD 0 0).toNat : Nat) : Int) == (45 : Int)) then (asrt (decide (0 ≤ (1 : Int) ∧ (1 : Int) ≤ ((a.length : Nat) : Int) ∧ ((a.length : Nat) : Int) ≤ ((a.length : Nat) : Int))) (Option.bind (findL (sub 1 a.length a) k 0) (tailR k (fun x => w64 (0 - x)) (sub 1 a.length a)))) else (Option.bind (findL a k 0) (tailR k (fun x => x) a)))) else (Option.bind (findL a k 0) (tailR k (fun x => x) a))) := by
  rw [F96, L1_is, L2_is, L3_is, L4_is, L5_is, L6_is, L7_is, L8_is, L9_is, L10_is, L11_is, L12_is]
  rfl
theorem findL_eq (l : List UInt8) (hl : l.length ≤ 10000) : ∀ (r : List UInt8) (m i : Nat), r.length < m → l.drop i = r → i ≤ l.length → findL l m (i : Int) = some ((i + (r.takeWhile (· != 46)).length : Nat) : Int) := by
  intro r
  induction r with
  | nil =>
    intro m i hm hd hi
    obtain ⟨m, rfl⟩ : ∃ j, m = j + 1 := ⟨m - 1, by omega⟩
    have : l.length ≤ i := List.drop_eq_nil_iff.1 hd
    rw [findL, decide_eq_false (show ¬ (i : Int) < (l.length : Int) by omega), cond_false]
    simp
  | cons c r ih =>
    intro m i hm hd hi
    obtain ⟨m, rfl⟩ : ∃ j, m = j + 1 := ⟨m - 1, by omega⟩
    obtain ⟨h1, h2, h3⟩ := drop_cons hd
    have e1 : w64 ((i : Int) + 1) = ((i + 1 : Nat) : Int) := by rw [w64_id (by omega) (by omega)]; omega
    rw [findL, decide_eq_true (show (i : Int) < (l.length : Int) by omega), cond_true, decide_eq_true (show 0 ≤ (i : Int) ∧ (i : Int) < (l.length : Int) by omega), asrt_true, Int.toNat_natCast, h1]
    by_cases hc : c = 46
    · subst hc
      rw [List.takeWhile_cons_of_neg (by simp)]
      rfl
    · have hc2 : (c != 46) = true := by simpa using hc
      have hne : ((((c.toNat : Nat) : Int) != 46)) = true := by
        rw [bne_iff_ne]
        intro h
        apply hc
        apply UInt8.toNat_inj.1
        have : (46 : UInt8).toNat = 46 := rfl
        omega
      rw [hne, cond_true, e1, ih m (i + 1) (by simp at hm; omega) h3 (by omega), List.takeWhile_cons_of_pos (p := fun x => x != 46) hc2, List.length_cons]
      congr 2; omega
theorem powL_eq (l : List UInt8) (hl : l.length ≤ 10000) : ∀ (d m i : Nat) (p : Int), i + d = l.length → d < m → 1 ≤ p → p * 10 ^ d ≤ 1000000000 → powL l m p (i : Int) = some (p * 10 ^ d) := by
  intro d
  induction d with
  | zero =>
    intro m i p hi hm h1 h2
    obtain ⟨m, rfl⟩ : ∃ j, m = j + 1 := ⟨m - 1, by omega⟩
    rw [powL, decide_eq_false (by omega), cond_false, Int.pow_zero, Int.mul_one]
  | succ d ih =>
    intro m i p hi hm h1 h2
    obtain ⟨m, rfl⟩ : ∃ j, m = j + 1 := ⟨m - 1, by omega⟩
    have e : p * 10 ^ (d + 1) = p * 10 * 10 ^ d := by rw [Int.pow_succ]; grind
    have h10 : (1 : Int) ≤ 10 ^ d := by
      have : (0 : Int) < 10 ^ d := Int.pow_pos (by omega)
      omega
    have hp : p * 10 * 1 ≤ p * 10 * 10 ^ d := Int.mul_le_mul_of_nonneg_left h10 (by omega)
    rw [e] at h2 ⊢
    have e1 : w64 ((i : Int) + 1) = ((i + 1 : Nat) : Int) := by rw [w64_id (by omega) (by omega)]; omega
    rw [powL, decide_eq_true (by omega), cond_true, e1, w64_id (x := p * 10) (by omega) (by omega)]
    exact ih m (i + 1) (p * 10) (by omega) (by omega) (by omega) h2
/-- A sign, and what it does. -/
def sgnF (neg : Bool) : Int → Int := if neg = true then (fun x => w64 (0 - x)) else (fun x => x)
section
variable {k : Nat}
theorem told_end (neg : Bool) (n v : Nat) (p : Int) (hn : n < 1000000000) (hv : v < 1000000000) (hp : 1 ≤ p ∧ p ≤ 1000000000) :
    sgnF neg (w64 (w64 ((n : Int) * 65536) + rnd v p)) = if neg = true then -((n : Int) * 65536 + rnd v p) else (n : Int) * 65536 + rnd v p := by
  have hb := rnd_bd v p hv hp
  unfold sgnF
  rw [w64_id (x := (n : Int) * 65536) (by omega) (by omega), w64_id (x := (n : Int) * 65536 + rnd v p) (by omega) (by omega)]
  cases neg with
  | true =>
    rw [if_pos rfl, if_pos rfl, w64_id (by omega) (by omega)]; omega
  | false => rfl
theorem tailN_eq (neg : Bool) (l w part : List UInt8) (pt : Bool) (hl : l.length ≤ 10000) (n : Nat) (hn : n < 1000000000) (hk : 10000 ≤ k) (e : (pt = true ∧ l = w ++ 46 :: part) ∨ (pt = false ∧ l = w ∧ part = [])) :
    tailN (k + 20) (sgnF neg) l (w.length : Nat) (w64 ((n : Int) * 65536)) = some (if (pt = false ∨ okL 1 part = true) then told (if neg = true then -((n : Int) * 65536 + rnd (num part) (10 ^ part.length)) else (n : Int) * 65536 + rnd (num part) (10 ^ part.length)) else (0, 30)) := by
  unfold tailN
  rcases e with ⟨e1, e2⟩ | ⟨e1, e2, e3⟩
  · have hll : l.length = w.length + (part.length + 1) := by rw [e2]; simp
    have e4 : w64 (((w.length : Nat) : Int) + 1) = ((w.length + 1 : Nat) : Int) := by rw [w64_id (by omega) (by omega)]; omega
    have e3 : sub (w.length + 1) l.length l = part := by
      unfold sub
      rw [List.take_length, e2, ← List.drop_drop, List.drop_left]
      rfl
    rw [decide_eq_true (by omega), cond_true, e4, decide_eq_true (by omega), asrt_true, Int.toNat_natCast, e3, F120_eq (k := k + 8) part (by omega), Option.bind_some]
    by_cases h : okL 1 part = true
    · obtain ⟨p1, p2, p3, _⟩ := num_lt 1 part h
      have hp9 := ten_nine part.length p3
      have hpw := powL_eq l hl part.length (k + 20) (w.length + 1) 1 (by omega) (by omega) (by omega) (by rw [Int.one_mul]; exact hp9.2)
      rw [Int.one_mul] at hpw
      rw [if_pos h, decide_eq_false (by omega), cond_false, hpw, Option.bind_some, w64_id (x := ((num part : Nat) : Int) * 65536) (by omega) (by omega), F114_eq (k := k + 18) _ _ (by omega) (by omega) (by omega) (by omega), Option.bind_some,
        show (2 * (((num part : Nat) : Int) * 65536) + 10 ^ part.length) / (2 * 10 ^ part.length) = rnd (num part) (10 ^ part.length) from rfl, told_end neg n (num part) _ hn p2 hp9, F118_eq (k := k + 16), Option.bind_some, if_pos (show pt = false ∨ okL 1 part = true from Or.inr h)]
    · rw [if_neg h, decide_eq_true (by omega), cond_true, if_neg (by rintro (h1 | h1) <;> simp_all)]
  · subst e2 e3
    have hr : rnd ((num [] : Nat) : Int) (10 ^ ([] : List UInt8).length) = rnd ((0 : Nat) : Int) 1 := by decide
    have h0 : F114 (k + 20) 0 1 = some (rnd ((0 : Nat) : Int) 1) := F114_eq (k := k + 18) 0 1 (by omega) (by omega) (by omega) (by omega)
    rw [decide_eq_false (by omega), cond_false, h0, Option.bind_some, told_end neg n 0 1 hn (by omega) (by omega), F118_eq (k := k + 16), Option.bind_some, if_pos (show pt = false ∨ okL 1 ([] : List UInt8) = true from Or.inl e1), hr]
theorem okL_one {w : List UInt8} (h : okL 1 w = true) : okL 0 w = true := by
  unfold okL at h ⊢
  simp only [Bool.and_eq_true, decide_eq_true_eq] at h ⊢
  exact ⟨⟨by omega, h.1.2⟩, h.2⟩
theorem tailR_eq (neg : Bool) (l w part : List UInt8) (pt : Bool) (hl : l.length ≤ 10000) (hk : 10000 ≤ k) (e : (pt = true ∧ l = w ++ 46 :: part) ∨ (pt = false ∧ l = w ∧ part = [])) :
    tailR (k + 20) (sgnF neg) l (w.length : Nat) = some (if (if pt = true then okL 0 w && okL 1 part else okL 1 w) = true then readS neg w part else (0, 30)) := by
  have hwl : w.length ≤ l.length := by rcases e with ⟨_, e2⟩ | ⟨_, e2, _⟩ <;> rw [e2] <;> simp
  have e3 : sub 0 w.length l = w := by
    unfold sub
    rcases e with ⟨_, e2⟩ | ⟨_, e2, _⟩
    · rw [e2, List.take_left, List.drop_zero]
    · rw [e2, List.take_length, List.drop_zero]
  have body : (Option.bind (F120 (k + 20) w) fun r25 => (bif (decide (r25 < (0 : Int))) then (some ((0 : Int), (30 : Int))) else tailN (k + 20) (sgnF neg) l (w.length : Nat) (w64 (r25 * (65536 : Int))))) = some (if (if pt = true then okL 1 w && okL 1 part else okL 1 w) = true then readS neg w part else (0, 30)) := by
    rw [F120_eq (k := k + 8) w (by omega), Option.bind_some]
    by_cases h : okL 1 w = true
    · obtain ⟨w1, w2, w3, _⟩ := num_lt 1 w h
      rw [if_pos h, decide_eq_false (by omega), cond_false, tailN_eq neg l w part pt hl (num w) w2 hk e, h]
      unfold readS
      cases pt <;> simp
    · rw [if_neg h, decide_eq_true (by omega), cond_true, Bool.eq_false_iff.2 h]
      cases pt <;> simp
  unfold tailR
  by_cases h0 : 0 < w.length
  · rw [decide_eq_true (by omega), cond_true, decide_eq_true (by omega), asrt_true, Int.toNat_natCast, e3, body]
    have : okL 0 w = okL 1 w := by unfold okL; rw [decide_eq_true (show 0 ≤ w.length by omega), decide_eq_true (show 1 ≤ w.length by omega)]
    rw [this]
  · have hw0 : w = [] := List.eq_nil_of_length_eq_zero (by omega)
    rw [decide_eq_false (by omega), cond_false]
    rcases e with ⟨e1, e2⟩ | ⟨e1, e2, e4⟩
    · have hll : l.length = w.length + (part.length + 1) := by rw [e2]; simp
      have hz : (((w.length : Nat) : Int) == ((l.length : Nat) : Int)) = false := by
        rw [beq_eq_false_iff_ne]; omega
      have := tailN_eq (k := k) neg l w part pt hl 0 (by omega) hk (.inl ⟨e1, e2⟩)
      rw [show w64 (((0 : Nat) : Int) * 65536) = 0 by decide] at this
      rw [hz, cond_false, this, e1, hw0]
      unfold readS
      simp [show okL 0 ([] : List UInt8) = true from rfl, show num [] = 0 from rfl]
    · have hz : (((w.length : Nat) : Int) == ((l.length : Nat) : Int)) = true := by rw [e2]; simp
      rw [hz, cond_true, decide_eq_true (by omega), asrt_true, Int.toNat_natCast, e3, body, e1]
      simp
theorem whole_eq (neg : Bool) (l : List UInt8) (hl : l.length ≤ 10000) (hk : 10020 ≤ k) : (Option.bind (findL l (k + 1) 0) (tailR (k + 1) (sgnF neg) l)) = some (parse1 neg l) := by
  have h := findL_eq l hl l (k + 1) 0 (by omega) rfl (by omega)
  rw [show ((0 : Nat) : Int) = 0 from rfl] at h
  rw [h, Option.bind_some, Nat.zero_add]
  obtain ⟨k, rfl⟩ : ∃ j, k = j + 19 := ⟨k - 19, by omega⟩
  have ht := take_drop l
  exact tailR_eq (k := k) neg l (cutD l).1 (cutD l).2.1 (cutD l).2.2 hl (by omega) (by
    unfold cutD
    simp only
    by_cases hd : l.dropWhile (· != 46) = []
    · right
      rw [hd] at ht ⊢
      rw [List.append_nil] at ht
      exact ⟨by simp, ht.symm, rfl⟩
    · left
      refine ⟨by simpa using hd, ?_⟩
      conv => lhs; rw [← ht]
      congr 1
      cases hq : l.dropWhile (· != 46) with
      | nil => exact absurd hq hd
      | cons c r =>
        have h1 : (c != 46) = false := by
          have := List.head_dropWhile_not (fun x : UInt8 => x != 46) (l := l) (by rw [hq]; simp)
          simpa [hq] using this
        have h2 : c = 46 := by simpa using h1
        rw [h2]; rfl)
theorem F96_eq (l : List UInt8) (hl : l.length ≤ 10000) (hk : 10020 ≤ k) : F96 (k + 2) l = some (parseS l) := by
  rw [F96_is]
  have hw0 := whole_eq (k := k) false l hl hk
  rw [show sgnF false = fun x => x from rfl] at hw0
  cases l with
  | nil => exact hw0
  | cons c r =>
    rw [decide_eq_true (by simp <;> omega), cond_true, decide_eq_true (by simp <;> omega), asrt_true]
    by_cases hc : c = 45
    · subst hc
      have hw1 := whole_eq (k := k) true r (by simp at hl; omega) hk
      rw [show sgnF true = fun x => w64 (0 - x) from rfl] at hw1
      have es : sub 1 (45 :: r).length (45 :: r) = r := by unfold sub; rw [List.take_length]; rfl
      rw [show (((((45 :: r : List UInt8).getD 0 0).toNat : Nat) : Int) == (45 : Int)) = true from rfl, cond_true, decide_eq_true (by simp; omega), asrt_true, es, hw1]
      rfl
    · have hne : (((((c :: r).getD 0 0).toNat : Nat) : Int) == (45 : Int)) = false := by
        rw [beq_eq_false_iff_ne]
        intro h
        apply hc
        apply UInt8.toNat_inj.1
        have : (45 : UInt8).toNat = 45 := rfl
        have h2 : ((c.toNat : Nat) : Int) = 45 := h
        omega
      rw [hne, cond_false, hw0]
      unfold parseS
      split
      · rename_i x y h; injection h with h1 h2; exact absurd h1 hc
      · rfl
end
end Go.Proofs.YtjfpcgkgdajcfaaGreatDoor

/-
  The reference reads a path's text as the path, and answers for every string; no condition but the sizes named.
-/
open Go Go.Ev Go.Proofs
namespace Go.Proofs.YtjfpcgkgdajcfaaGreatDoor
set_option linter.unusedSimpArgs false
set_option linter.unusedVariables false
/-- What stands ahead of the first such string from a place on, and behind it. -/
def cutG (s a : List UInt8) : Nat → Nat → List UInt8 × List UInt8 × Bool
  | 0, _ => (s, [], false)
  | m + 1, i => if i + a.length ≤ s.length then (if sub i (i + a.length) s = a then (sub 0 i s, sub (i + a.length) s.length s, true) else cutG s a m (i + 1)) else (s, [], false)
def cutF (s a : List UInt8) : List UInt8 × List UInt8 × Bool := cutG s a (s.length + 1) 0
theorem sub_len (l h : Nat) (s : List UInt8) : (sub l h s).length ≤ s.length := by
  unfold sub
  rw [List.length_drop, List.length_take]; omega
theorem cutG_len (s a : List UInt8) : ∀ m i, (cutG s a m i).1.length ≤ s.length ∧ (cutG s a m i).2.1.length ≤ s.length ∧ ((cutG s a m i).2.2 = true → (cutG s a m i).2.1.length + a.length ≤ s.length) := by
  intro m
  induction m with
  | zero => intro i; exact ⟨Nat.le_refl _, by simp [cutG], fun h => by simp [cutG] at h⟩
  | succ m ih =>
    intro i
    unfold cutG
    split
    · rename_i h1
      split
      · refine ⟨sub_len _ _ _, sub_len _ _ _, fun _ => ?_⟩
        show (sub (i + a.length) s.length s).length + a.length ≤ s.length
        unfold sub
        rw [List.length_drop, List.length_take]; omega
      · exact ih (i + 1)
    · exact ⟨Nat.le_refl _, by simp, fun h => by simp at h⟩
theorem cutF_len (s a : List UInt8) : (cutF s a).1.length ≤ s.length ∧ (cutF s a).2.1.length ≤ s.length ∧ ((cutF s a).2.2 = true → (cutF s a).2.1.length + a.length ≤ s.length) := cutG_len s a _ _
/-- At the beginning. -/
theorem cutF_pre (a r : List UInt8) : cutF (a ++ r) a = ([], r, true) := by
  unfold cutF cutG
  have h1 : sub 0 (0 + a.length) (a ++ r) = a := by unfold sub; simp
  have h2 : sub (0 + a.length) (a ++ r).length (a ++ r) = r := by
    unfold sub
    rw [List.take_length, Nat.zero_add, List.drop_left]
  rw [if_pos (by simp), if_pos h1, h2]
  simp [sub]
theorem cutG_c (c : UInt8) (w r : List UInt8) (h : ∀ x ∈ w, x ≠ c) : ∀ (d i m : Nat), i + d = w.length → d < m → cutG (w ++ c :: r) [c] m i = (w, r, true) := by
  have at_ : ∀ i, i ≤ w.length → sub i (i + 1) (w ++ c :: r) = [(w ++ c :: r).getD i 0] := fun i hi => by
    have hlt : i < (w ++ c :: r).length := by simp; omega
    unfold sub
    rw [List.take_succ_eq_append_getElem hlt, List.drop_append_of_le_length (by simp; omega), List.drop_of_length_le (by simp; omega), List.getD_eq_getElem?_getD, List.getElem?_eq_getElem hlt]
    rfl
  intro d
  induction d with
  | zero =>
    intro i m hi hm
    obtain ⟨m, rfl⟩ : ∃ j, m = j + 1 := ⟨m - 1, by omega⟩
    have hi2 : i = w.length := by omega
    subst hi2
    unfold cutG
    rw [if_pos (by simp), show w.length + ([c] : List UInt8).length = w.length + 1 from rfl, at_ _ (Nat.le_refl _), if_pos (by simp [List.getD_eq_getElem?_getD])]
    have e1 : sub 0 w.length (w ++ c :: r) = w := by unfold sub; simp
    have e2 : sub (w.length + 1) (w ++ c :: r).length (w ++ c :: r) = r := by
      unfold sub
      rw [List.take_length, ← List.drop_drop, List.drop_left]
      rfl
    rw [e1, e2]
  | succ d ih =>
    intro i m hi hm
    obtain ⟨m, rfl⟩ : ∃ j, m = j + 1 := ⟨m - 1, by omega⟩
    unfold cutG
    rw [if_pos (by simp; omega), show i + ([c] : List UInt8).length = i + 1 from rfl, at_ _ (by omega)]
    have hne : ¬ [(w ++ c :: r).getD i 0] = [c] := by
      intro e
      injection e with e _
      have hlt : i < w.length := by omega
      rw [List.getD_eq_getElem?_getD, List.getElem?_append_left hlt, List.getElem?_eq_getElem hlt] at e
      exact h _ (List.getElem_mem hlt) e
    rw [if_neg hne]
    exact ih (i + 1) m (by omega) (by omega)
theorem cutF_c (c : UInt8) (w r : List UInt8) (h : ∀ x ∈ w, x ≠ c) : cutF (w ++ c :: r) [c] = (w, r, true) := cutG_c c w r h w.length 0 _ (by omega) (by simp; omega)
/-- A point with which a string begins, as the reference reads it. -/
def ptR (s : List UInt8) : Int × Int × List UInt8 × Bool :=
  if (cutF s [41]).2.2 = true ∧ (cutF s [41]).1 ≠ [] ∧ (cutF s [41]).1.getD 0 0 = 40 then
    ((parseS (cutF (sub 1 (cutF s [41]).1.length (cutF s [41]).1) [44]).1).1, (parseS (cutF (sub 1 (cutF s [41]).1.length (cutF s [41]).1) [44]).2.1).1, (cutF s [41]).2.1,
      (cutF (sub 1 (cutF s [41]).1.length (cutF s [41]).1) [44]).2.2 && (((parseS (cutF (sub 1 (cutF s [41]).1.length (cutF s [41]).1) [44]).1).2 == 0) && ((parseS (cutF (sub 1 (cutF s [41]).1.length (cutF s [41]).1) [44]).2.1).2 == 0)))
  else (0, 0, [], false)
theorem ptR_len (s : List UInt8) : (ptR s).2.2.1.length ≤ s.length ∧ ((ptR s).2.2.2 = true → (ptR s).2.2.1.length + 1 ≤ s.length) := by
  obtain ⟨_, h2, h3⟩ := cutF_len s [41]
  unfold ptR
  split
  · rename_i h
    exact ⟨h2, fun _ => h3 h.1⟩
  · exact ⟨by simp, fun h => by simp at h⟩
section
variable {k : Nat}
theorem F69_L1_eq (s a : List UInt8) (hs : s.length ≤ 100000) (ha : a.length ≤ 100) : ∀ (d m i : Nat), i + d = s.length + 1 → d < m →
    (Option.bind (F69_L1 k s a m (i : Int)) (Sum.elim (fun r21 => (some (r21.1, r21.2, true))) (fun r26 => (some (s, ([] : List UInt8), false))))) = some (cutG s a d i) := by
  intro d
  induction d with
  | zero =>
    intro m i hi hm
    obtain ⟨m, rfl⟩ : ∃ j, m = j + 1 := ⟨m - 1, by omega⟩
    have e1 : w64 ((i : Int) + ((a.length : Nat) : Int)) = ((i + a.length : Nat) : Int) := by rw [w64_id (by omega) (by omega)]; omega
    rw [F69_L1, e1, decide_eq_false (by omega), cond_false]
    rfl
  | succ d ih =>
    intro m i hi hm
    obtain ⟨m, rfl⟩ : ∃ j, m = j + 1 := ⟨m - 1, by omega⟩
    have e1 : w64 ((i : Int) + ((a.length : Nat) : Int)) = ((i + a.length : Nat) : Int) := by rw [w64_id (by omega) (by omega)]; omega
    have e2 : w64 ((i : Int) + 1) = ((i + 1 : Nat) : Int) := by rw [w64_id (by omega) (by omega)]; omega
    rw [F69_L1, e1]
    unfold cutG
    by_cases h1 : i + a.length ≤ s.length
    · rw [decide_eq_true (by omega), cond_true, decide_eq_true (by omega), asrt_true, if_pos h1, Int.toNat_natCast, Int.toNat_natCast]
      by_cases h2 : sub i (i + a.length) s = a
      · rw [beq_iff_eq.2 h2, cond_true, decide_eq_true (by omega), asrt_true, decide_eq_true (by omega), asrt_true, if_pos h2]
        rfl
      · rw [beq_eq_false_iff_ne.2 h2, cond_false, if_neg h2, e2]
        exact ih m (i + 1) (by omega) (by omega)
    · rw [decide_eq_false (by omega), cond_false, if_neg h1]
      rfl
theorem F69_eq (s a : List UInt8) (hs : s.length ≤ 20000) (ha : a.length ≤ 100) (hk : s.length + 1 < k) : F69 (k + 1) s a = some (cutF s a) := by
  rw [F69]
  have := F69_L1_eq (k := k) s a (by omega) ha (s.length + 1) k 0 (by omega) hk
  rw [show ((0 : Nat) : Int) = 0 from rfl] at this
  rw [this]
  rfl
theorem first40 (c : UInt8) : ((((c.toNat : Nat) : Int) != (40 : Int))) = !(c == 40) := by
  have : (40 : UInt8).toNat = 40 := rfl
  by_cases h : c = 40
  · subst h; rfl
  · have h2 : ((((c.toNat : Nat) : Int) != (40 : Int))) = true := by
      rw [bne_iff_ne]
      intro e
      exact h (UInt8.toNat_inj.1 (by omega))
    rw [h2, beq_eq_false_iff_ne.2 h]; rfl
theorem F68_eq (s : List UInt8) (hs : s.length ≤ 10000) (hk : 10030 ≤ k) : F68 (k + 1) s = some (ptR s) := by
  obtain ⟨k, rfl⟩ : ∃ j, k = j + 2 := ⟨k - 2, by omega⟩
  obtain ⟨h1, _, _⟩ := cutF_len s [41]
  rw [F68, F69_eq (k := k + 1) s _ (by omega) (by simp) (by omega), Option.bind_some]
  unfold ptR
  generalize cutF s [41] = u at *
  cases hu : u.2.2 with
  | false => rw [cond_false, if_neg (by simp)]
  | true =>
    rw [cond_true]
    by_cases he : u.1 = []
    · rw [beq_iff_eq.2 he, cond_true, if_neg (by simp [he])]
    · have hpos := List.length_pos_iff.2 he
      rw [beq_eq_false_iff_ne.2 he, cond_false, decide_eq_true (by omega), asrt_true, first40]
      by_cases hc : u.1.getD 0 0 = 40
      · rw [beq_iff_eq.2 hc, show (!true) = false from rfl, cond_false, decide_eq_true (by omega), asrt_true]
        have hsl := sub_len 1 u.1.length u.1
        obtain ⟨h3, h4, _⟩ := cutF_len (sub 1 u.1.length u.1) [44]
        rw [F69_eq (k := k + 1) _ _ (by omega) (by simp) (by omega), Option.bind_some, F96_eq (k := k) _ (by omega) (by omega), Option.bind_some, F96_eq (k := k) _ (by omega) (by omega), Option.bind_some, if_pos ⟨rfl, he, hc⟩]
        generalize cutF (sub 1 u.1.length u.1) [44] = v at *
        generalize parseS v.1 = x
        generalize parseS v.2.1 = y
        cases v.2.2 <;> cases (x.2 == 0) <;> rfl
      · rw [beq_eq_false_iff_ne.2 hc, show (!false) = true from rfl, cond_true, if_neg (fun h => hc h.2.2)]
theorem cutF_pt (a b : Int) (r : List UInt8) : cutF (ptS a b ++ r) [41] = ([40] ++ (txt a ++ 44 :: txt b), r, true) := by
  have := cutF_c 41 ([40] ++ (txt a ++ 44 :: txt b)) r (fun x hx => by
    simp only [List.mem_append, List.mem_cons, List.not_mem_nil, or_false] at hx
    rcases hx with hx | hx | hx | hx
    · subst hx; decide
    · exact (isNb_ne (txt_nb a x hx)).2.1
    · subst hx; decide
    · exact (isNb_ne (txt_nb b x hx)).2.1)
  rw [← this, ptS_eq]; simp
theorem F68_pt (a b : Int) (r : List UInt8) (ha : isFix a = true) (hb : isFix b = true) (hs : (ptS a b ++ r).length ≤ 10000) (hk : 10030 ≤ k) : F68 (k + 1) (ptS a b ++ r) = some (a, b, r, true) := by
  obtain ⟨k, rfl⟩ : ∃ j, k = j + 2 := ⟨k - 2, by omega⟩
  have hl1 := txt_len a
  have hl2 := txt_len b
  rw [F68, F69_eq (k := k + 1) _ _ (by omega) (by simp) (by omega), Option.bind_some, cutF_pt, cond_true]
  dsimp only
  have he : (([40] ++ (txt a ++ 44 :: txt b) == ([] : List UInt8))) = false := rfl
  have hg : (!((([40] : List UInt8) ++ (txt a ++ 44 :: txt b)).getD 0 0 == (40 : UInt8))) = false := rfl
  have es : sub 1 ([40] ++ (txt a ++ 44 :: txt b)).length ([40] ++ (txt a ++ 44 :: txt b)) = txt a ++ 44 :: txt b := by
    unfold sub; rw [List.take_length]; rfl
  have ec : cutF (txt a ++ 44 :: txt b) [44] = (txt a, txt b, true) := cutF_c 44 (txt a) (txt b) (fun x hx => (isNb_ne (txt_nb a x hx)).2.2)
  rw [he, cond_false, decide_eq_true (by simp; omega), asrt_true, first40, hg, cond_false, decide_eq_true (by simp; omega), asrt_true, es,
    F69_eq (k := k + 1) _ _ (by simp; omega) (by simp) (by simp; omega), Option.bind_some, ec, F96_eq (k := k) _ (by simp only; omega) (by omega), Option.bind_some, F96_eq (k := k) _ (by simp only; omega) (by omega), Option.bind_some]
  simp only [parse_txt a ha, parse_txt b hb]
  rfl
end
end Go.Proofs.YtjfpcgkgdajcfaaGreatDoor

/-
  The reference's Parse, and the law PathsTexts, plainly; no condition but the sizes named.
-/
open Go Go.Ev Go.Proofs
namespace Go.Proofs.YtjfpcgkgdajcfaaGreatDoor
set_option linter.unusedSimpArgs false
set_option linter.unusedVariables false
section
variable {k : Nat}
theorem F20_L1_end (m : Nat) (s : List UInt8) (pts : List AV) (c : Bool) : F20_L1 k (m + 1) s false pts c = some (false, pts, c) := rfl
theorem F20_L1_ex : ∀ (N m : Nat) (s : List UInt8) (o : Bool) (pts : List (Int × Int)) (c : Bool), s.length ≤ N → N ≤ 10000 → N + 2 < m → pts.length + 3 * N ≤ 100000 →
    ∃ (o' : Bool) (pts' : List (Int × Int)) (c' : Bool), F20_L1 (k + 10050) m s o (pts.map encP) c = some (o', pts'.map encP, c') ∧ pts'.length ≤ pts.length + 3 * N + 3 := by
  intro N
  induction N using Nat.strongRecOn with
  | _ N ih =>
    intro m s o pts c hs hN hm hp
    obtain ⟨m, rfl⟩ : ∃ j, m = j + 2 := ⟨m - 2, by omega⟩
    rw [F20_L1]
    cases o with
    | false => exact ⟨false, pts, c, rfl, by omega⟩
    | true =>
      rw [cond_true]
      by_cases hn : s = []
      · subst hn
        exact ⟨true, pts, c, rfl, by omega⟩
      · have hn2 : (s != ([] : List UInt8)) = true := by simpa using hn
        rw [hn2, cond_true]
        cases c with
        | true => exact ⟨true, pts, true, rfl, by omega⟩
        | false =>
          have hpos := List.length_pos_iff.2 hn
          obtain ⟨u1, u2, u3⟩ := cutF_len s [46, 46, 99, 111, 110, 116, 114, 111, 108, 115, 32]
          rw [cond_false, F69_eq (k := k + 10049) s _ (by omega) (by simp) (by omega), Option.bind_some]
          generalize cutF s [46, 46, 99, 111, 110, 116, 114, 111, 108, 115, 32] = u at *
          obtain ⟨v1, v2⟩ := ptR_len u.2.1
          rw [F68_eq (k := k + 10049) _ (by omega) (by omega), Option.bind_some]
          generalize ptR u.2.1 = v at *
          obtain ⟨w1, w2, w3⟩ := cutF_len v.2.2.1 [32, 97, 110, 100, 32]
          rw [F69_eq (k := k + 10049) _ _ (by omega) (by simp) (by omega), Option.bind_some]
          generalize cutF v.2.2.1 [32, 97, 110, 100, 32] = w at *
          obtain ⟨x1, x2⟩ := ptR_len w.2.1
          rw [F68_eq (k := k + 10049) _ (by omega) (by omega), Option.bind_some]
          generalize ptR w.2.1 = x at *
          obtain ⟨y1, y2, y3⟩ := cutF_len x.2.2.1 [46, 46]
          rw [F69_eq (k := k + 10049) _ _ (by omega) (by simp) (by omega), Option.bind_some]
          generalize cutF x.2.2.1 [46, 46] = y at *
          have hz : ∃ z, F68 (k + 10050) y.2.1 = some z ∧ z.2.2.1.length ≤ y.2.1.length := ⟨_, F68_eq (k := k + 10049) _ (by omega) (by omega), (ptR_len y.2.1).1⟩
          obtain ⟨z, hz1, hz2⟩ := hz
          have r1 : decide (((pts.map encP).length + 2 + 1) * (16 + 1) ≤ 2 ^ 36) = true := by rw [List.length_map, room_ok (by omega) (by omega) (by omega)]
          have r2 : decide (((List.map encP (pts ++ [(v.1, v.2.1), (x.1, x.2.1)])).length + 1 + 1) * (16 + 1) ≤ 2 ^ 36) = true := by rw [List.length_map, room_ok (by simp; omega) (by omega) (by omega)]
          simp only [r1, asrt_true, enc_app2, hz1, Option.bind_some, r2, enc_app1]
          have hB : ∃ (o' : Bool) (pts' : List (Int × Int)) (c' : Bool), (bif (y.2.1 == ([99, 121, 99, 108, 101] : List UInt8)) then (F20_L1 (k + 10050) (m + 1) ([] : List UInt8) false ((pts ++ [(v.1, v.2.1), (x.1, x.2.1)]).map encP) true) else (F20_L1 (k + 10050) (m + 1) z.2.2.1 false ((pts ++ [(v.1, v.2.1), (x.1, x.2.1)] ++ [(z.1, z.2.1)]).map encP) false)) = some (o', pts'.map encP, c') ∧ pts'.length ≤ pts.length + 3 * N + 3 := by
            cases (y.2.1 == ([99, 121, 99, 108, 101] : List UInt8)) with
            | true => exact ⟨false, _, true, rfl, by simp <;> omega⟩
            | false => exact ⟨false, _, false, rfl, by simp <;> omega⟩
          cases hu : u.2.2 with
          | false => exact hB
          | true =>
          cases hv : v.2.2.2 with
          | false => exact hB
          | true =>
          cases hw : w.2.2 with
          | false => exact hB
          | true =>
          cases hx : x.2.2.2 with
          | false => exact hB
          | true =>
          cases hy : y.2.2 with
          | false => exact hB
          | true =>
          cases he : (u.1 == ([] : List UInt8)) with
          | false => exact hB
          | true =>
          cases hf : (w.1 == ([] : List UInt8)) with
          | false => exact hB
          | true =>
          have v2 := v2 hv
          have x2 := x2 hx
          simp only [cond_true]
          cases (y.2.1 == ([99, 121, 99, 108, 101] : List UInt8)) with
          | true =>
            cases (y.1 == ([] : List UInt8)) with
            | true => exact ⟨true, _, true, rfl, by simp <;> omega⟩
            | false => exact ⟨false, _, true, rfl, by simp <;> omega⟩
          | false =>
            rw [cond_false]
            cases (y.1 == ([] : List UInt8)) with
            | false => exact ⟨false, _, false, rfl, by simp <;> omega⟩
            | true =>
              obtain ⟨o', pts', c', e1, e2⟩ := ih (N - 2) (by omega) (m + 1) z.2.2.1 z.2.2.2 (pts ++ [(v.1, v.2.1), (x.1, x.2.1)] ++ [(z.1, z.2.1)]) false (by omega) (by omega) (by omega) (by simp; omega)
              refine ⟨o', pts', c', e1, ?_⟩
              simp only [List.length_append, List.length_cons, List.length_nil] at e2
              omega
theorem F20_L1_rt {l : List (Int × Int)} {c : Bool} (hf : ptsOk l) (hc : c = true → l.length % 3 = 0) (ho : c = false → l.length % 3 = 1) (hl : l.length ≤ 605) : ∀ (d m q : Nat), q + d = l.length / 3 → (c = true → 1 ≤ d) → d + 1 < m → (segsT l c q d).length ≤ 10000 →
    F20_L1 (k + 10050) m (segsT l c q d) true ((l.take (3 * q + 1)).map encP) false = some (true, l.map encP, c) := by
  intro d
  induction d with
  | zero =>
    intro m q hq h1 hm _
    obtain ⟨m, rfl⟩ : ∃ j, m = j + 1 := ⟨m - 1, by omega⟩
    cases c with
    | true => have := h1 rfl; omega
    | false =>
      have := ho rfl
      rw [F20_L1, List.take_of_length_le (by omega)]
      rfl
  | succ d ih =>
    intro m q hq h1 hm hlen
    obtain ⟨m, rfl⟩ : ∃ j, m = j + 1 := ⟨m - 1, by omega⟩
    have hq3 : 3 * q + 2 < l.length := by omega
    have m1 : (3 * q + 1) % l.length = 3 * q + 1 := Nat.mod_eq_of_lt (by omega)
    have m2 : (3 * q + 2) % l.length = 3 * q + 2 := Nat.mod_eq_of_lt (by omega)
    have lens : (segT l c q ++ segsT l c (q + 1) d).length ≤ 10000 := hlen
    have es : segsT l c q (d + 1) = ([46, 46, 99, 111, 110, 116, 114, 111, 108, 115, 32] : List UInt8) ++ (ptQ l (3 * q + 1) ++ (([32, 97, 110, 100, 32] : List UInt8) ++ (ptQ l (3 * q + 2) ++ (([46, 46] : List UInt8) ++ ((bif c && decide (q + 1 = l.length / 3) then ([99, 121, 99, 108, 101] : List UInt8) else ptQ l ((3 * q + 3) % l.length)) ++ segsT l c (q + 1) d))))) := by
      show segT l c q ++ segsT l c (q + 1) d = _
      unfold segT
      rw [m1, m2]
      simp only [List.append_assoc]
    have hle : (([46, 46, 99, 111, 110, 116, 114, 111, 108, 115, 32] : List UInt8) ++ (ptQ l (3 * q + 1) ++ (([32, 97, 110, 100, 32] : List UInt8) ++ (ptQ l (3 * q + 2) ++ (([46, 46] : List UInt8) ++ ((bif c && decide (q + 1 = l.length / 3) then ([99, 121, 99, 108, 101] : List UInt8) else ptQ l ((3 * q + 3) % l.length)) ++ segsT l c (q + 1) d)))))).length ≤ 10000 := by rw [← es]; exact hlen
    generalize hX : (bif c && decide (q + 1 = l.length / 3) then ([99, 121, 99, 108, 101] : List UInt8) else ptQ l ((3 * q + 3) % l.length)) ++ segsT l c (q + 1) d = X at *
    simp only [List.length_append, List.length_cons, List.length_nil] at hle
    have f1 := hf (3 * q + 1)
    have f2 := hf (3 * q + 2)
    have f3 := hf (3 * q + 3)
    rw [es, F20_L1, cond_true, show (([46, 46, 99, 111, 110, 116, 114, 111, 108, 115, 32] : List UInt8) ++ (ptQ l (3 * q + 1) ++ (([32, 97, 110, 100, 32] : List UInt8) ++ (ptQ l (3 * q + 2) ++ (([46, 46] : List UInt8) ++ X)))) != ([] : List UInt8)) = true from rfl, cond_true, cond_false,
      F69_eq (k := k + 10049) _ _ (by simp only [List.length_append, List.length_cons, List.length_nil]; omega) (by simp) (by simp only [List.length_append, List.length_cons, List.length_nil]; omega), Option.bind_some, cutF_pre]
    dsimp only
    rw [show ptQ l (3 * q + 1) = ptS (l.getD (3 * q + 1) (0, 0)).1 (l.getD (3 * q + 1) (0, 0)).2 from rfl, F68_pt (k := k + 10049) _ _ _ f1.1 f1.2 (by
      simp only [List.length_append, List.length_cons, List.length_nil, ptQ] at hle ⊢; omega) (by omega), Option.bind_some]
    dsimp only
    rw [F69_eq (k := k + 10049) _ _ (by simp only [List.length_append, List.length_cons, List.length_nil]; omega) (by simp) (by simp only [List.length_append, List.length_cons, List.length_nil]; omega), Option.bind_some, cutF_pre]
    dsimp only
    rw [show ptQ l (3 * q + 2) = ptS (l.getD (3 * q + 2) (0, 0)).1 (l.getD (3 * q + 2) (0, 0)).2 from rfl, F68_pt (k := k + 10049) _ _ _ f2.1 f2.2 (by
      simp only [List.length_append, List.length_cons, List.length_nil, ptQ] at hle ⊢; omega) (by omega), Option.bind_some]
    dsimp only
    rw [F69_eq (k := k + 10049) _ _ (by simp only [List.length_append, List.length_cons, List.length_nil]; omega) (by simp) (by simp only [List.length_append, List.length_cons, List.length_nil]; omega), Option.bind_some, cutF_pre]
    dsimp only
    have eb : (([] : List UInt8) == ([] : List UInt8)) = true := rfl
    have r1 : decide ((((l.take (3 * q + 1)).map encP).length + 2 + 1) * (16 + 1) ≤ 2 ^ 36) = true := by rw [List.length_map, room_ok (by rw [List.length_take]; omega) (by omega) (by omega)]
    rw [eb]
    simp only [cond_true]
    rw [r1, asrt_true, enc_app2, take_two l q hq3]
    by_cases hlast : (c && decide (q + 1 = l.length / 3)) = true
    · rw [hlast, cond_true] at hX
      rw [Bool.and_eq_true, decide_eq_true_eq] at hlast
      have hd : d = 0 := by omega
      subst hd
      have hX2 : X = ([99, 121, 99, 108, 101] : List UInt8) := by rw [← hX]; rfl
      have hc3 := hc hlast.1
      obtain ⟨m, rfl⟩ : ∃ j, m = j + 1 := ⟨m - 1, by omega⟩
      rw [hX2, List.take_of_length_le (by omega), hlast.1]
      rfl
    · have hcf : (c && decide (q + 1 = l.length / 3)) = false := by simpa using hlast
      have h33 : 3 * q + 3 < l.length := by
        cases c with
        | false => have := ho rfl; omega
        | true =>
          have := hc rfl
          have : q + 1 ≠ l.length / 3 := by simpa using hcf
          omega
      rw [hcf, cond_false, Nat.mod_eq_of_lt h33] at hX
      have hne : (X == ([99, 121, 99, 108, 101] : List UInt8)) = false := by
        rw [← hX]
        unfold ptQ ptS
        simp only [List.append_assoc]
        rfl
      have hX3 : X.length ≤ 10000 := by omega
      have r2 : decide (((List.map encP (l.take (3 * q + 3))).length + 1 + 1) * (16 + 1) ≤ 2 ^ 36) = true := by rw [List.length_map, room_ok (by rw [List.length_take]; omega) (by omega) (by omega)]
      rw [hne, cond_false, ← hX, show ptQ l (3 * q + 3) = ptS (l.getD (3 * q + 3) (0, 0)).1 (l.getD (3 * q + 3) (0, 0)).2 from rfl, F68_pt (k := k + 10049) _ _ _ f3.1 f3.2 (by
        rw [← hX] at hX3; exact hX3) (by omega), Option.bind_some, r2, asrt_true]
      dsimp only
      rw [enc_app1, ← take_two l q hq3, take_three l q h33]
      refine ih m (q + 1) (by omega) (fun hct => ?_) (by omega) ?_
      · rw [hct, Bool.true_and, decide_eq_false_iff_not] at hcf; omega
      · rw [List.length_append] at lens; omega
theorem F20_L1_exK {K : Nat} (hK : 10050 ≤ K) (N m : Nat) (s : List UInt8) (o : Bool) (pts : List (Int × Int)) (c : Bool) (h1 : s.length ≤ N) (h2 : N ≤ 10000) (h3 : N + 2 < m) (h4 : pts.length + 3 * N ≤ 100000) :
    ∃ (o' : Bool) (pts' : List (Int × Int)) (c' : Bool), F20_L1 K m s o (pts.map encP) c = some (o', pts'.map encP, c') ∧ pts'.length ≤ pts.length + 3 * N + 3 := by
  obtain ⟨j, rfl⟩ : ∃ j, K = j + 10050 := ⟨K - 10050, by omega⟩
  exact F20_L1_ex N m s o pts c h1 h2 h3 h4
theorem F20_L1_rtK {K : Nat} (hK : 10050 ≤ K) {l : List (Int × Int)} {c : Bool} (hf : ptsOk l) (hc : c = true → l.length % 3 = 0) (ho : c = false → l.length % 3 = 1) (hl : l.length ≤ 605) (d m q : Nat) (h1 : q + d = l.length / 3) (h2 : c = true → 1 ≤ d) (h3 : d + 1 < m) (h4 : (segsT l c q d).length ≤ 10000) :
    F20_L1 K m (segsT l c q d) true ((l.take (3 * q + 1)).map encP) false = some (true, l.map encP, c) := by
  obtain ⟨j, rfl⟩ : ∃ j, K = j + 10050 := ⟨K - 10050, by omega⟩
  exact F20_L1_rt hf hc ho hl d m q h1 h2 h3 h4
theorem F18_K {K : Nat} {l : List (Int × Int)} {c : Bool} (nl : Bool) (hl : l.length ≤ 20000) (h1 : 1000 ≤ K) (h2 : K ≤ 15000) : F18 K nl (l.map encP) c = some (if vld l c = true then (textP l c, 0) else ([], 2)) := by
  obtain ⟨j, rfl⟩ : ∃ j, K = j + 1000 := ⟨K - 1000, by omega⟩
  exact F18_eq nl hl (by omega)
theorem F20_yes {l : List (Int × Int)} {c : Bool} (hv : vld l c = true) (hs : (textP l c).length ≤ 10000) (h1 : 11000 ≤ k + 1) (h2 : k + 1 ≤ 15000) : F20 (k + 2) (textP l c) = some (false, l.map encP, c, 0) := by
  obtain ⟨hp, hn, hc, ho⟩ := vld_pos hv
  have hpl : ptsOk l := by
    unfold vld at hv
    rw [Bool.and_eq_true] at hv
    exact plc_fix hv.2
  have h0 := hpl 0
  have hs2 : (ptS (l.getD 0 (0, 0)).1 (l.getD 0 (0, 0)).2 ++ segsT l c 0 (l.length / 3)).length ≤ 10000 := hs
  have hloop := F20_L1_rtK (K := k + 1) (by omega) hpl (fun h => (hc h).1) ho (by omega) (l.length / 3) (k + 1) 0 (by omega) (fun h => by have := hc h; omega) (by omega) (by rw [List.length_append] at hs2; omega)
  have e1 : l.take (3 * 0 + 1) = [l.getD 0 (0, 0)] := by
    cases l with
    | nil => simp at hp
    | cons a l => rfl
  rw [e1] at hloop
  rw [F20, decide_eq_false (show ¬ (20000 : Int) < (((textP l c).length : Nat) : Int) by omega), cond_false]
  have ht : textP l c = ptS (l.getD 0 (0, 0)).1 (l.getD 0 (0, 0)).2 ++ segsT l c 0 (l.length / 3) := rfl
  rw [ht, F68_pt (k := k) _ _ _ h0.1 h0.2 hs2 (by omega), Option.bind_some, enc_one, hloop, Option.bind_some, F18_K false (by omega) (by omega) (by omega), Option.bind_some, cleanP, asrt_true, hv, if_pos rfl, ht]
  simp
theorem F20_no {s : List UInt8} (hs : s.length ≤ 3000) (h : ∀ l c, vld l c = true → textP l c ≠ s) (h1 : 11000 ≤ k + 1) (h2 : k + 1 ≤ 15000) : F20 (k + 2) s = some (true, [], false, 30) := by
  rw [F20, decide_eq_false (show ¬ (20000 : Int) < ((s.length : Nat) : Int) by omega), cond_false, F68_eq (k := k) s (by omega) (by omega), Option.bind_some, enc_one]
  obtain ⟨q1, _⟩ := ptR_len s
  obtain ⟨o', pts', c', e1, e2⟩ := F20_L1_exK (K := k + 1) (by omega) s.length (k + 1) (ptR s).2.2.1 (ptR s).2.2.2 [((ptR s).1, (ptR s).2.1)] false q1 (by omega) (by omega) (by simp; omega)
  rw [e1, Option.bind_some, F18_K false (by simp at e2; omega) (by omega) (by omega), Option.bind_some, cleanP, asrt_true]
  cases o' with
  | false => rfl
  | true =>
    cases hv : vld pts' c' with
    | false => rfl
    | true =>
      have hne : (textP pts' c' != s) = true := by simpa using h pts' c' hv
      simp [hne]
end
theorem awake_13 : F13 13000 = some true := by kernel_rfl
/-- The law, plainly. -/
theorem pathsTexts_plain (nl : Bool) (l : List (Int × Int)) (c : Bool) (s : List UInt8) : F4 13001 nl (l.map encP) c s = some true := by
  have hA : F13 13000 = some true := awake_13
  rw [show (13001 : Nat) = 13000 + 1 from rfl, F4, List.length_map]
  by_cases h1 : l.length ≤ 200
  · rw [decide_eq_false (show ¬ (200 : Int) < ((l.length : Nat) : Int) by omega), cond_false]
    have t1 := F17_eq (k := 12000) (l := l) (c := c) nl (by omega) (by omega)
    have t2 := F18_eq (k := 12000) (l := l) (c := c) nl (by omega) (by omega)
    rw [show 12000 + 1000 = 13000 from rfl] at t1 t2
    by_cases h2 : s.length ≤ 3000
    · rw [decide_eq_false (show ¬ (3000 : Int) < ((s.length : Nat) : Int) by omega), cond_false]
      have key : ∃ (a : Bool) (x : List (Int × Int)) (c' : Bool) (e : Int), F19 13000 s = some (a, x.map encP, c', e) ∧ F20 13000 s = some (a, x.map encP, c', e) ∧ x.length ≤ 1000 := by
        by_cases h : ∃ l' c', vld l' c' = true ∧ textP l' c' = s
        · obtain ⟨l', c', hv, hs⟩ := h
          subst hs
          exact ⟨false, l', c', 0, F19_yes (k := 11999) hv (by omega) (by omega), F20_yes (k := 12998) hv (by omega) (by omega) (by omega), by have := vld_pos hv; omega⟩
        · have hno : ∀ l' c', vld l' c' = true → textP l' c' ≠ s := fun l' c' hv e => h ⟨l', c', hv, e⟩
          exact ⟨true, [], false, 30, F19_no (k := 8999) h2 hno (by omega), F20_no (k := 12998) h2 hno (by omega) (by omega), by simp⟩
      obtain ⟨a, x, c', e, k1, k2, hx⟩ := key
      have h16 := F16_eq (k := 12998) (l := x) (c := c') a a hx (by omega)
      rw [show 12998 + 2 = 13000 from rfl] at h16
      rw [t1, t2, k1, k2]
      simp [cleanP, h16, hA]
    · rw [decide_eq_true (show (3000 : Int) < ((s.length : Nat) : Int) by omega), cond_true]
      by_cases h3 : s.length ≤ 20000
      · rw [decide_eq_true (show ((s.length : Nat) : Int) ≤ 20000 by omega), cond_true, hA]; rfl
      · rw [decide_eq_false (show ¬ ((s.length : Nat) : Int) ≤ 20000 by omega), cond_false]
        have k1 : F19 13000 s = some (true, ([] : List (Int × Int)).map encP, false, 3) := by
          rw [show (13000 : Nat) = 12999 + 1 from rfl, F19, decide_eq_true (show (20000 : Int) < ((s.length : Nat) : Int) by omega)]; rfl
        have k2 : F20 13000 s = some (true, ([] : List (Int × Int)).map encP, false, 3) := by
          rw [show (13000 : Nat) = 12999 + 1 from rfl, F20, decide_eq_true (show (20000 : Int) < ((s.length : Nat) : Int) by omega)]; rfl
        have h16 := F16_eq (k := 12998) (l := []) (c := false) true true (by simp) (by omega)
        rw [show 12998 + 2 = 13000 from rfl] at h16
        simp only [List.map_nil] at k1 k2 h16
        rw [t1, t2, k1, k2]
        simp [cleanP, h16, hA, AV.cleanL]
  · rw [decide_eq_true (show (200 : Int) < ((l.length : Nat) : Int) by omega), cond_true, hA]; rfl
end Go.Proofs.YtjfpcgkgdajcfaaGreatDoor
