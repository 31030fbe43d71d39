/-
  What fix.Parse reads: the sign, digits, a point, digits.
-/
import Derived.Test.YtjaifahodfljkaaDoorTextB
import Derived.Test.YtjaifahodfljkaaDoorZx2
import Derived.Test.YtjaifahodfljkaaDoorZx3
namespace Go.Proofs.YtjaifahodfljkaaDoor.Z
open Go Go.RowKit Go.Proofs.YtjaifahodfljkaaDoorW.PrintWords Go.Proofs.YtjaifahodfljkaaDoorW.PrintMore

def isDg (c : UInt8) : Bool := decide (48 ≤ c.toNat) && decide (c.toNat ≤ 57)
def dgStep (acc : Nat) (c : UInt8) : Nat := acc * 10 + (c.toNat - 48)
def numF (acc : Nat) (l : List UInt8) : Nat := l.foldl dgStep acc
theorem numF_nil (acc : Nat) : numF acc [] = acc := rfl
theorem numF_cons (acc : Nat) (c : UInt8) (l : List UInt8) : numF acc (c :: l) = numF (dgStep acc c) l := by unfold numF; rw [List.foldl_cons]
def num (l : List UInt8) : Nat := numF 0 l
/-- At least so many digits, and at most nine. -/
def okL (least : Nat) (l : List UInt8) : Bool := decide (least ≤ l.length) && decide (l.length ≤ 9) && l.all isDg
/-- What stands ahead of the first point, and behind it. -/
def cutS (l : List UInt8) : List UInt8 × List UInt8 × Bool := (l.takeWhile (· != 46), (l.dropWhile (· != 46)).tail, (l.dropWhile (· != 46)) != [])
def readS (neg : Bool) (w part : List UInt8) : Int × Int :=
  told (if neg = true then -((num w : Int) * 65536 + rnd (num part) (10 ^ part.length)) else (num w : Int) * 65536 + rnd (num part) (10 ^ part.length))
def parse1 (neg : Bool) (l : List UInt8) : Int × Int :=
  if (if (cutS l).2.2 = true then okL 0 (cutS l).1 && okL 1 (cutS l).2.1 else okL 1 (cutS l).1) = true then readS neg (cutS l).1 (cutS l).2.1 else (0, 30)
def parseS (l : List UInt8) : Int × Int := match l with
  | 45 :: r => parse1 true r
  | _ => parse1 false l

/-! ### The library's words -/
theorem index_dot (l : List UInt8) : (l.dropWhile (· != 46) = [] → Lib.index l [46] = -1) ∧ (l.dropWhile (· != 46) ≠ [] → Lib.index l [46] = ((l.takeWhile (· != 46)).length : Int)) := by
  induction l with
  | nil => exact ⟨fun _ => rfl, fun h => absurd rfl h⟩
  | cons b l ih =>
    unfold Lib.index
    by_cases h : b = 46
    · subst h
      rw [List.dropWhile_cons_of_neg (by simp), List.takeWhile_cons_of_neg (by simp)]
      exact ⟨fun h => (by cases h), fun _ => by simp [List.isPrefixOf]⟩
    · have h2 : (b != 46) = true := by simpa using h
      rw [List.dropWhile_cons_of_pos (p := fun x => x != 46) h2, List.takeWhile_cons_of_pos (p := fun x => x != 46) h2]
      have h3 : List.isPrefixOf [46] (b :: l) = false := by
        simp only [List.isPrefixOf, Bool.and_true]
        exact beq_eq_false_iff_ne.2 (fun e => h e.symm)
      rw [h3]
      constructor
      · intro hd
        rw [ih.1 hd]; decide
      · intro hd
        rw [ih.2 hd]
        have : ¬ ((((l.takeWhile (· != 46)).length : Int) == -1) = true) := by simp
        rw [if_neg (by decide), if_neg this, List.length_cons]
        omega
theorem take_drop (l : List UInt8) : l.takeWhile (· != 46) ++ l.dropWhile (· != 46) = l := List.takeWhile_append_dropWhile
theorem cut_dot (l : List UInt8) : Lib.cut l [46] = cutS l := by
  unfold Lib.cut cutS
  have hi := index_dot l
  have ht := take_drop l
  by_cases hd : l.dropWhile (· != 46) = []
  · rw [hi.1 hd, if_neg (by omega), hd]
    rw [hd, List.append_nil] at ht
    rw [ht]; rfl
  · rw [hi.2 hd, if_pos (by omega)]
    have e1 := @List.take_left _ (l.takeWhile (· != 46)) (l.dropWhile (· != 46))
    have e2 := @List.drop_left _ (l.takeWhile (· != 46)) (l.dropWhile (· != 46))
    rw [ht] at e1 e2
    have e3 : l.drop ((l.takeWhile (· != 46)).length + ([46] : List UInt8).length) = (l.dropWhile (· != 46)).tail := by
      rw [← List.drop_drop, e2]
      cases l.dropWhile (· != 46) <;> rfl
    rw [Int.toNat_natCast, e1, e3]
    simp [hd]
theorem dW_nil (p : UInt8 → Bool) (l : List UInt8) : l.dropWhile p = [] ↔ ∀ c ∈ l, p c = true := by
  induction l with
  | nil => simp
  | cons b l ih =>
    by_cases h : p b = true
    · rw [List.dropWhile_cons_of_pos h, ih]; simp [h]
    · rw [List.dropWhile_cons_of_neg h]
      constructor
      · intro e; cases e
      · intro e; exact absurd (e b (by simp)) h
theorem trim_digits (l : List UInt8) : (Lib.trimS l [48, 49, 50, 51, 52, 53, 54, 55, 56, 57] = []) ↔ l.all isDg = true := by
  have hm : ∀ c : UInt8, ([48, 49, 50, 51, 52, 53, 54, 55, 56, 57] : List UInt8).contains c = isDg c := by
    have : ∀ n : Fin 256, ([48, 49, 50, 51, 52, 53, 54, 55, 56, 57] : List UInt8).contains (UInt8.ofNat n.val) = isDg (UInt8.ofNat n.val) := by decide +kernel
    intro c
    have h := this ⟨c.toNat, c.toNat_lt⟩
    simpa using h
  unfold Lib.trimS Lib.trimLeftS Lib.trimRightS
  have hf : (fun x => ([48, 49, 50, 51, 52, 53, 54, 55, 56, 57] : List UInt8).contains x) = isDg := funext hm
  rw [hf]
  constructor
  · intro h
    rw [dW_nil] at h
    rw [List.all_eq_true]
    intro c hc
    have hs : l.reverse.takeWhile isDg ++ l.reverse.dropWhile isDg = l.reverse := List.takeWhile_append_dropWhile
    have hc2 : c ∈ l.reverse := by simpa using hc
    rw [← hs, List.mem_append] at hc2
    rcases hc2 with h1 | h1
    · exact List.all_eq_true.1 (List.all_takeWhile (p := isDg) (l := l.reverse)) c h1
    · exact h c (by simpa using h1)
  · intro h
    rw [List.all_eq_true] at h
    have h2 : l.reverse.dropWhile isDg = [] := by
      rw [dW_nil]
      intro c hc
      exact h c (by simpa using hc)
    rw [h2]; rfl
theorem digits_ok (l : List UInt8) (least : Nat) (h : l.length ≤ 20000) : fix_digits.f (B l) least = some (okL least l) := by
  unfold fix_digits.f okL
  rw [B_size]
  by_cases h1 : (l.length : Int) ≥ least
  · rw [if_pos h1, decide_eq_true (show least ≤ l.length by omega), Bool.true_and]
    by_cases h2 : (l.length : Int) ≤ 9
    · rw [if_pos h2, decide_eq_true (show l.length ≤ 9 by omega), Bool.true_and]
      unfold strings_Trim.f
      rw [B_size, if_pos (by omega), if_pos (by decide), if_pos (by decide)]
      simp only [Option.bind_some, B_data]
      have ht := trim_digits l
      rw [ByteArray.toList_eq]
      have e2 : (⟨(Lib.trimS l [48, 49, 50, 51, 52, 53, 54, 55, 56, 57]).toArray⟩ : ByteArray).data.toList = Lib.trimS l [48, 49, 50, 51, 52, 53, 54, 55, 56, 57] := by simp
      rw [e2]
      congr 1
      rw [Bool.eq_iff_iff, beq_iff_eq]
      exact ht
    · rw [if_neg h2, decide_eq_false (show ¬ l.length ≤ 9 by omega)]; rfl
  · rw [if_neg h1, decide_eq_false (show ¬ least ≤ l.length by omega)]; rfl
theorem B_extract (l : List UInt8) (i j : Nat) : (B l).extract i j = B ((l.take j).drop i) := by
  apply ByteArray.ext
  rw [ByteArray.data_extract]
  simp [B, List.extract_eq_take_drop, List.drop_take]
def dropSign (l : List UInt8) : List UInt8 := match l with
  | 45 :: r => r
  | _ => l
theorem trimp_ok (l : List UInt8) (h : l.length ≤ 20000) : strings_TrimPrefix.f (B l) ⟨#[45]⟩ = some (B (dropSign l)) := by
  unfold strings_TrimPrefix.f stringslite_TrimPrefix.f stringslite_HasPrefix.f
  rw [show (⟨#[45]⟩ : ByteArray) = B [45] from rfl]
  simp only [B_size, B_extract, List.length_cons, List.length_nil]
  cases l with
  | nil => rfl
  | cons b r =>
    rw [if_pos (by simp; omega), if_pos (by omega), if_pos (by simp; omega)]
    simp only [Option.bind_some, ByteArray.toList_eq, B_data]
    have e1 : (((0 + 1 : Nat) : Int)).toNat = 1 := rfl
    rw [e1]
    by_cases hb : b = 45
    · subst hb
      have e4 : (1 : Int) ≤ (r.length : Int) + 1 := by omega
      simp [dropSign, e4]
    · have e2 : (List.drop 0 (List.take 1 (b :: r)) == [45]) = false := by simp [hb]
      rw [e2]
      have e3 : dropSign (b :: r) = b :: r := by
        unfold dropSign
        split
        · rename_i x y h; injection h with h1 h2; exact absurd h1 hb
        · rfl
      rw [e3]; rfl
theorem numF_lt (l : List UInt8) : ∀ acc, l.all isDg = true → numF acc l < (acc + 1) * 10 ^ l.length := by
  induction l with
  | nil => intro acc _; rw [numF_nil]; simp
  | cons c l ih =>
    intro acc h
    simp only [List.all_cons, Bool.and_eq_true, isDg, decide_eq_true_eq] at h
    have := ih (dgStep acc c) h.2
    rw [numF_cons, List.length_cons, Nat.pow_succ]
    have h3 : dgStep acc c + 1 ≤ (acc + 1) * 10 := by unfold dgStep; omega
    have h4 := Nat.mul_le_mul_right (10 ^ l.length) h3
    rw [Nat.mul_assoc, Nat.mul_comm 10 (10 ^ l.length)] at h4
    exact Nat.lt_of_lt_of_le this h4
theorem num_lt (least : Nat) (l : List UInt8) (h : okL least l = true) : num l < 10 ^ l.length ∧ num l < 1000000000 ∧ l.length ≤ 9 ∧ l.all isDg = true := by
  unfold okL at h
  simp only [Bool.and_eq_true, decide_eq_true_eq] at h
  have h1 := numF_lt l 0 h.2
  have h2 : 10 ^ l.length ≤ 1000000000 := Nat.pow_le_pow_right (n := 10) (by omega) h.1.2
  unfold num
  generalize 10 ^ l.length = P at *
  refine ⟨by omega, by omega, h.1.2, h.2⟩
theorem decFrom_num (l : List UInt8) : ∀ acc, l.all isDg = true → Lib.decFrom acc l = some (numF acc l) := by
  induction l with
  | nil => intro acc _; rw [numF_nil, Lib.decFrom]
  | cons c l ih =>
    intro acc h
    simp only [List.all_cons, Bool.and_eq_true, isDg, decide_eq_true_eq] at h
    rw [Lib.decFrom, Lib.digitVal, if_pos h.1, numF_cons]
    exact ih _ h.2
theorem atoi_ok (least : Nat) (l : List UInt8) (h : okL least l = true) : strconv_Atoi.f (B (48 :: l)) = some ((num l : Int), none) := by
  obtain ⟨_, _, h9, hd⟩ := num_lt least l h
  unfold strconv_Atoi.f
  rw [B_size, B_data, if_pos (by simp; omega), Lib.atoiAll_short _ (by simp; omega)]
  have e : Lib.atoi (48 :: l) = some (num l : Int) := by
    simp only [Lib.atoi, Lib.decNat, List.isEmpty_cons, Lib.decFrom, Lib.digitVal]
    rw [if_neg (by decide), if_neg (by decide), if_neg (by decide), if_pos (by decide)]
    simp only
    rw [decFrom_num l _ hd]
    rfl
  rw [e]
  rfl
theorem ten_nine (n : Nat) (h : n ≤ 9) : (1 : Int) ≤ 10 ^ n ∧ (10 : Int) ^ n ≤ 1000000000 := by
  have : ∀ j : Fin 10, (1 : Int) ≤ 10 ^ j.val ∧ (10 : Int) ^ j.val ≤ 1000000000 := by decide
  exact this ⟨n, by omega⟩
theorem round_num (v : Nat) (p : Int) (hv : v < 1000000000) (this : 1 ≤ p ∧ p ≤ 1000000000) : fix_Round.f (wrap64 ((v : Int) * 65536)) p = some (rnd v p) := by
  rw [w64 (x := (v : Int) * 65536) (by omega) (by omega), round_ok _ _ (by omega) (by omega) (by omega) (by omega) (by omega) (by omega)]
  rfl
theorem rnd_bd (v : Nat) (p : Int) (hv : v < 1000000000) (this : 1 ≤ p ∧ p ≤ 1000000000) : 0 ≤ rnd v p ∧ rnd v p ≤ 65536000000001 := by
  unfold rnd
  constructor
  · exact Int.ediv_nonneg (by omega) (by omega)
  · have h1 : (2 * ((v : Int) * 65536) + p) / (2 * p) ≤ 2 * ((v : Int) * 65536) + p := Int.ediv_le_self _ (by omega)
    have h0 := Int.mul_ediv_self_le (x := 2 * ((v : Int) * 65536) + p) (k := 2 * p) (by omega)
    have hq : 0 ≤ (2 * ((v : Int) * 65536) + p) / (2 * p) := Int.ediv_nonneg (by omega) (by omega)
    generalize (2 * ((v : Int) * 65536) + p) / (2 * p) = q at *
    by_cases h7 : q = 0
    · omega
    · have h5 := Int.mul_le_mul_of_nonneg_right (show 1 ≤ p by omega) (show 0 ≤ 2 * q - 1 by omega)
      have h6 : p * (2 * q - 1) = 2 * p * q - p := by grind
      omega
theorem parse_yes (k : Nat) (hk : 20 ≤ k) (l pl w part : List UInt8) (a b : Nat) (hw : okL a w = true) (hp : okL b part = true) :
    fix_Parse.j0 k (B l) (B pl) (B w) (B part) false = some (readS (decide (pl.length < l.length)) w part) := by
  obtain ⟨k, rfl⟩ : ∃ m, k = m + 3 := ⟨k - 3, by omega⟩
  obtain ⟨w1, w2, w3, _⟩ := num_lt a w hw
  obtain ⟨p1, p2, p3, _⟩ := num_lt b part hp
  simp only [fix_Parse.j0]
  rw [if_neg (by decide)]
  simp only [B_size]
  rw [show (⟨#[48]⟩ : ByteArray) = B [48] from rfl, B_app, B_app, List.singleton_append, List.singleton_append, if_pos (by omega), atoi_ok a w hw]
  simp only [Option.bind_some]
  rw [if_pos (by omega), atoi_ok b part hp]
  simp only [Option.bind_some]
  obtain ⟨p, hpp⟩ : ∃ p : Int, p = 10 ^ part.length := ⟨_, rfl⟩
  have hp9 := ten_nine part.length p3
  unfold readS
  rw [power_ok _ _ (by omega) p3]
  rw [← hpp] at hp9 ⊢
  simp only [Option.bind_some]
  rw [round_num _ _ p2 hp9]
  simp only [Option.bind_some]
  have hb := rnd_bd (num part) p p2 hp9
  generalize rnd (num part) p = r at *
  rw [w64 (x := (num w : Int) * 65536) (by omega) (by omega), w64 (x := (num w : Int) * 65536 + r) (by omega) (by omega), w64 (x := -((num w : Int) * 65536 + r)) (by omega) (by omega)]
  by_cases c : (pl.length : Int) < l.length
  · rw [if_pos c, decide_eq_true (by omega), if_pos rfl, result_ok]; rfl
  · rw [if_neg c, decide_eq_false (by omega), if_neg (by decide), result_ok]; rfl
theorem parse_no (k : Nat) (hk : 1 ≤ k) (x0 x4 x5 x6 : ByteArray) : fix_Parse.j0 k x0 x4 x5 x6 true = some (0, 30) := by
  obtain ⟨k, rfl⟩ : ∃ m, k = m + 1 := ⟨k - 1, by omega⟩
  simp only [fix_Parse.j0]
  rfl
theorem parse_cut (k : Nat) (hk : 20 ≤ k) (l pl : List UInt8) (hl : l.length ≤ 10000) (hpl : pl.length ≤ l.length) (e : dropSign l = pl) :
    fix_Parse.f k (B l) = some (parse1 (decide (pl.length < l.length)) pl) := by
  unfold fix_Parse.f
  rw [trimp_ok l (by omega), e]
  simp only [Option.bind_some]
  have hc : strings_Cut.f (B pl) ⟨#[46]⟩ = some (B (cutS pl).1, B (cutS pl).2.1, (cutS pl).2.2) := by
    unfold strings_Cut.f
    rw [B_size, if_pos (by omega), B_data]
    have : (⟨#[46]⟩ : ByteArray).data.toList = [46] := rfl
    rw [this, cut_dot]; rfl
  rw [hc]
  simp only [Option.bind_some]
  have l1 : (cutS pl).1.length ≤ 10000 := by
    have h2 := congrArg List.length (take_drop pl)
    rw [List.length_append] at h2
    unfold cutS; simp only; omega
  have l2 : (cutS pl).2.1.length ≤ 10000 := by
    have := take_drop pl
    have h2 := congrArg List.length this
    rw [List.length_append] at h2
    unfold cutS; simp only [List.length_tail]; omega
  unfold parse1
  generalize hw : (cutS pl).1 = w at *
  generalize hp : (cutS pl).2.1 = part at *
  have emp : (cutS pl).2.2 = false → part = [] := by
    intro h
    unfold cutS at h hp
    simp only at h hp
    have h2 : pl.dropWhile (· != 46) = [] := by simpa using h
    rw [h2] at hp
    exact hp.symm
  generalize (cutS pl).2.2 = pt at *
  cases pt with
  | true =>
    simp only [reduceIte]
    rw [show (0 : Int) = ((0 : Nat) : Int) from rfl, show (1 : Int) = ((1 : Nat) : Int) from rfl, digits_ok w 0 (by omega), digits_ok part 1 (by omega)]
    simp only [Option.bind_some]
    cases h1 : okL 0 w with
    | true =>
      simp only [reduceIte, Bool.true_and]
      cases h2 : okL 1 part with
      | true => simp only [reduceIte, Bool.not_true]; exact parse_yes k hk l pl w part 0 1 h1 h2
      | false => simp only [Bool.not_false, Bool.false_eq_true, reduceIte]; exact parse_no k (by omega) _ _ _ _
    | false => simp only [Bool.false_and, Bool.false_eq_true, reduceIte]; exact parse_no k (by omega) _ _ _ _
  | false =>
    have e2 := emp rfl
    subst e2
    simp only [Bool.false_eq_true, reduceIte]
    rw [show (1 : Int) = ((1 : Nat) : Int) from rfl, digits_ok w 1 (by omega)]
    simp only [Option.bind_some]
    cases h1 : okL 1 w with
    | true => simp only [reduceIte]; exact parse_yes k hk l pl w [] 1 0 h1 rfl
    | false => simp only [Bool.false_eq_true, reduceIte]; exact parse_no k (by omega) _ _ _ _
theorem parse_ok (k : Nat) (hk : 20 ≤ k) (l : List UInt8) (hl : l.length ≤ 10000) : fix_Parse.f k (B l) = some (parseS l) := by
  unfold parseS
  split
  · rename_i r
    rw [parse_cut k hk (45 :: r) r hl (by simp) rfl, decide_eq_true (by simp)]
  · rename_i x h
    have e : dropSign l = l := by
      unfold dropSign
      split
      · rename_i r; exact absurd rfl (h r)
      · rfl
    rw [parse_cut k hk l l hl (Nat.le_refl _) e, decide_eq_false (by omega)]
end Go.Proofs.YtjaifahodfljkaaDoor.Z
