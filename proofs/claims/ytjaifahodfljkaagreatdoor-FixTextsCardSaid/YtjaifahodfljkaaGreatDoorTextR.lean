/-
  What the reference's Text and Parse compute: the same as the package's own.
-/
import Derived.Test.YtjaifahodfljkaaGreatDoorTextC
import Derived.Test.YtjaifahodfljkaaGreatDoorRefA
import Derived.Test.YtjaifahodfljkaaGreatDoorZx7
import Derived.Test.YtjaifahodfljkaaGreatDoorZx8
import Derived.Test.YtjaifahodfljkaaGreatDoorZx9
namespace Go.Proofs.YtjaifahodfljkaaGreatDoor.Z
open Go Go.RowKit Go.Proofs.YtjaifahodfljkaaGreatDoorW.PrintWords Go.Proofs.YtjaifahodfljkaaGreatDoorW.PrintMore

theorem enc_digit (n : Nat) : Utf8.encode (wrap32 (wrap64 (48 + ((n % 10 : Nat) : Int)))) = B [UInt8.ofNat (48 + n % 10)] := by
  have h : ∀ d : Fin 10, Utf8.encode (wrap32 (wrap64 (48 + ((d.val : Nat) : Int)))) = B [UInt8.ofNat (48 + d.val)] := by decide +kernel
  exact h ⟨n % 10, Nat.mod_lt _ (by omega)⟩
theorem tmod_ten (n : Nat) : Int.tmod (n : Int) 10 = ((n % 10 : Nat) : Int) := by rw [Int.tmod_eq_emod_of_nonneg (by omega)]; omega
theorem tdiv_ten (n : Nat) : Int.tdiv (n : Int) 10 = ((n / 10 : Nat) : Int) := by rw [Int.tdiv_eq_ediv_of_nonneg (by omega)]; omega
theorem rdigits_loop (k : Nat) : ∀ (m n least : Nat) (acc : List UInt8), n < 10 ^ m → n ≤ 9000000000000000000 → m ≤ k → m + (least - acc.length) + 1 ≤ k → k + acc.length ≤ 300 →
    fleuronref02_digits.l0 k n least (B acc) = some (B (dgL k n least acc)) := by
  induction k with
  | zero => intro m n least acc _ _ _ h2 _; omega
  | succ k ih =>
    intro m n least acc hm hn hmk hk2 hk3
    simp only [fleuronref02_digits.l0, dgL]
    rw [tmod_ten, tdiv_ten, enc_digit, w64 (x := ((n / 10 : Nat) : Int)) (by omega) (by omega), B_size, B_size, B_app]
    have hs : ([UInt8.ofNat (48 + n % 10)] : List UInt8).length + acc.length ≤ 9223372036854775807 := by simp; omega
    by_cases h0 : (n : Int) > 0
    · rw [if_pos h0, if_pos hs, if_pos (.inl (by omega))]
      obtain ⟨m, rfl⟩ : ∃ j, m = j + 1 := by
        refine ⟨m - 1, ?_⟩
        have : m ≠ 0 := by intro e; subst e; simp at hm; omega
        omega
      exact ih m (n / 10) least _ (by rw [Nat.pow_succ] at hm; omega) (by omega) (by omega) (by simp; omega) (by simp; omega)
    · rw [if_neg h0]
      by_cases h1 : (acc.length : Int) < least
      · rw [if_pos h1, if_pos hs, if_pos (.inr (by omega))]
        exact ih m (n / 10) least _ (by omega) (by omega) (by omega) (by simp; omega) (by simp; omega)
      · rw [if_neg h1, if_neg (by omega)]
theorem rdigits_ok (k n least : Nat) (hk : 100 ≤ k) (hk2 : k ≤ 290) (h1 : 1 ≤ least) (hl : least ≤ 10) (hn : n < 10000000000) : fleuronref02_digits.f k n least = some (B (padded n least)) := by
  unfold fleuronref02_digits.f
  rw [show (⟨#[]⟩ : ByteArray) = B [] from rfl, rdigits_loop k 10 n least [] (by omega) (by omega) (by omega) (by simp; omega) (by simp; omega)]
  have hd := decDigits_len 10 n (by omega) (by omega)
  rw [dgL_is n least k h1 (by omega)]
theorem padded_one (n : Nat) : padded n 1 = Lib.decDigits n := by
  unfold padded
  have := decDigits_pos n
  rw [show 1 - (Lib.decDigits n).length = 0 by omega]; rfl
theorem rtext_frac (j : Nat) : ∀ (k : Nat) (x : List UInt8) (f p : Int) (n : Nat), 110 + j ≤ k → k ≤ 280 → x.length ≤ 100 → 1 ≤ n → n + j = 6 → p = 10 ^ n → 0 ≤ f → f ≤ 65535 → 1 ≤ j →
    fleuronref02_Text.l0 k (B x) f n p = some (B (x ++ 46 :: fracN j f n p), 0) := by
  induction j with
  | zero => intro k x f p n _ _ _ _ _ _ _ _ h1; omega
  | succ j ih =>
    intro k x f p n hk hk2 hx hn hj hp hf0 hf h1
    obtain ⟨k, rfl⟩ : ∃ m, k = m + 1 := ⟨k - 1, by omega⟩
    have hpp : 0 < p ∧ p ≤ 100000 := by
      have h : ∀ j : Fin 6, (0 : Int) < 10 ^ j.val ∧ (10 : Int) ^ j.val ≤ 100000 := by decide
      have := h ⟨n, by omega⟩
      simp only at this
      rw [hp]; exact this
    have hfp1 : f * p ≤ 65535 * 100000 := Int.mul_le_mul hf hpp.2 (by omega) (by omega)
    have hfp0 : 0 ≤ f * p := Int.mul_nonneg hf0 (by omega)
    have hg := good_iff f p
    have hd0 := nst_nonneg f p hpp.1 hf0
    have hd1 : nst f p ≤ 100000 := by unfold nst; omega
    have e0 : -f * p = -(f * p) := Int.neg_mul f p
    have e1 : -((2 * (-f * p) + 65536) / (2 * 65536)) = nst f p := by rw [e0]; unfold nst; omega
    simp only [fleuronref02_Text.l0, fracN]
    rw [w64 (x := -f) (by omega) (by omega), w64 (x := -f * p) (by omega) (by omega), rnear_ok _ _ (by omega) (by omega) (by omega) (by omega)]
    simp only [Option.bind_some]
    rw [e1, w64 (x := nst f p) (by omega) (by omega), w64 (x := nst f p * 65536) (by omega) (by omega)]
    have hnext : (good f p = true → False) → fleuronref02_Text.l0 k (B x) f (wrap64 ((n : Int) + 1)) (wrap64 (p * 10)) = some (B (x ++ 46 :: (if good f p = true then padded (nst f p).toNat n else fracN j f (n + 1) (p * 10))), 0) := by
      intro g
      rw [if_neg g, w64 (x := (n : Int) + 1) (by omega) (by omega), w64 (x := p * 10) (by omega) (by omega)]
      have hj1 : 1 ≤ j := by
        apply Classical.byContradiction
        intro hc
        have hn5 : n = 5 := by omega
        subst hn5
        apply g
        rw [hp]
        exact good_five f hf0 hf
      exact ih k x f (p * 10) (n + 1) (by omega) (by omega) hx (by omega) (by omega) (by rw [hp, Int.pow_succ]) hf0 hf hj1
    by_cases c1 : nst f p < p
    · rw [if_pos c1, rnear_ok _ _ (by omega) (by omega) (by omega) (by omega)]
      simp only [Option.bind_some]
      rw [show (2 * (nst f p * 65536) + p) / (2 * p) = rnd (nst f p) p from rfl]
      by_cases c2 : rnd (nst f p) p = f
      · have g : good f p = true := hg.2 ⟨c1, c2⟩
        rw [if_pos c2, if_pos g]
        obtain ⟨d, hd⟩ := Int.eq_ofNat_of_zero_le hd0
        rw [hd, rdigits_ok k d n (by omega) (by omega) hn (by omega) (by omega), B_size, if_pos (by omega)]
        simp only [Option.bind_some]
        rw [show (⟨#[46]⟩ : ByteArray) = B [46] from rfl]
        simp only [B_app, B_size]
        have hl := decDigits_len 6 d (by omega) (by omega)
        have hpl : (padded d n).length ≤ 20 := by unfold padded; simp; omega
        rw [if_pos (by simp; omega), Int.toNat_natCast]
        simp
      · rw [if_neg c2]
        exact hnext (fun g => c2 (hg.1 g).2)
    · rw [if_neg c1]
      exact hnext (fun g => c1 (hg.1 g).1)
theorem rtext_pos (k : Nat) (hk : 130 ≤ k) (hk2 : k ≤ 270) (s : List UInt8) (hs : s.length ≤ 1) (a : Int) (ha : isFix a = true) :
    fleuronref02_Text.j0 k a (B s) = some (B (s ++ (Lib.decDigits (a.natAbs / 65536) ++ fracS (a.natAbs % 65536 : Nat))), 0) := by
  obtain ⟨k, rfl⟩ : ∃ m, k = m + 1 := ⟨k - 1, by omega⟩
  simp only [fleuronref02_Text.j0]
  rw [mx_abs1 a ha]
  have e0 : abs1 a = (a.natAbs : Int) := by unfold abs1; split <;> omega
  rw [isFix_iff] at ha
  have hb : a.natAbs ≤ 2147483647 := by omega
  rw [e0]
  generalize a.natAbs = m at *
  rw [Int.tdiv_eq_ediv_of_nonneg (by omega), Int.tmod_eq_emod_of_nonneg (by omega), w64 (x := (m : Int) / 65536) (by omega) (by omega), show (m : Int) / 65536 = ((m / 65536 : Nat) : Int) by omega, show (1 : Int) = ((1 : Nat) : Int) from rfl,
    rdigits_ok k _ 1 (by omega) (by omega) (by omega) (by omega) (by omega), padded_one]
  simp only [Option.bind_some, B_app, B_size]
  have hl := decDigits_len 5 (m / 65536) (by omega) (by omega)
  rw [if_pos (by omega), show (m : Int) % 65536 = ((m % 65536 : Nat) : Int) by omega]
  unfold fracS
  by_cases hz : ((m % 65536 : Nat) : Int) = 0
  · rw [if_pos hz, if_pos hz, List.append_nil]
  · rw [if_neg hz, if_neg hz]
    have := rtext_frac 5 k (s ++ Lib.decDigits (m / 65536)) ((m % 65536 : Nat) : Int) 10 1 (by omega) (by omega) (by simp; omega) (by omega) (by omega) (by decide) (by omega) (by omega) (by omega)
    rw [List.append_assoc] at this
    exact this
theorem rtext_ok (k : Nat) (hk : 140 ≤ k) (hk2 : k ≤ 270) (a : Int) : fleuronref02_Text.f k a = some (if isFix a = true then (B (textS a), 0) else (B [], 2)) := by
  unfold fleuronref02_Text.f
  obtain ⟨k, rfl⟩ : ∃ m, k = m + 2 := ⟨k - 2, by omega⟩
  rw [ris_one]; simp only [Option.bind_some]
  by_cases h : isFix a = true
  · rw [if_pos h, if_pos h]
    unfold textS
    by_cases h0 : a < 0
    · rw [if_pos h0, if_pos h0, show (⟨#[45]⟩ : ByteArray) = B [45] from rfl, rtext_pos _ (by omega) (by omega) [45] (by simp) a h]
    · rw [if_neg h0, if_neg h0, show (⟨#[]⟩ : ByteArray) = B [] from rfl, rtext_pos _ (by omega) (by omega) [] (by simp) a h]
  · rw [if_neg h, if_neg h]; rfl

/-! ### Parse -/
theorem bt_drop (l : List UInt8) (i : Nat) (c : UInt8) (r : List UInt8) (h : l.drop i = c :: r) : bt (B l) i = (c.toNat : Int) ∧ i < l.length ∧ l.drop (i + 1) = r := by
  have hi : i < l.length := by
    apply Classical.byContradiction
    intro hc
    rw [List.drop_of_length_le (by omega)] at h
    cases h
  have h2 := List.drop_eq_getElem_cons hi
  rw [h] at h2
  injection h2 with e1 e2
  refine ⟨?_, hi, e2.symm⟩
  unfold bt
  rw [Int.toNat_natCast, dif_pos (by rw [B_size]; exact hi), e1]
  rfl
theorem ten_step (acc P : Nat) (c : UInt8) (hc : isDg c = true) (h : (acc + 1) * (P * 10) ≤ 10000000000) (hP : 1 ≤ P) : (dgStep acc c + 1) * P ≤ 10000000000 ∧ dgStep acc c ≤ 10000000000 ∧ acc ≤ 1000000000 := by
  simp only [isDg, Bool.and_eq_true, decide_eq_true_eq] at hc
  have h3 : dgStep acc c + 1 ≤ (acc + 1) * 10 := by unfold dgStep; omega
  have h4 := Nat.mul_le_mul_right P h3
  rw [Nat.mul_assoc, Nat.mul_comm 10 P] at h4
  have h5 := Nat.le_trans h4 h
  have h6 : dgStep acc c + 1 ≤ (dgStep acc c + 1) * P := Nat.le_mul_of_pos_right _ (by omega)
  have h7 : acc * 10 ≤ dgStep acc c := by unfold dgStep; omega
  exact ⟨h5, by omega, by omega⟩
theorem pow_pos10 (n : Nat) : 1 ≤ 10 ^ n := Nat.pow_pos (by omega)
theorem whole_loop (l : List UInt8) (hl : l.length ≤ 10000) (r : List UInt8) : ∀ (k i acc : Nat), r.length < k → l.drop i = r → (acc + 1) * 10 ^ r.length ≤ 10000000000 →
    fleuronref02_whole.l0 k (B l) acc i = some (if r.all isDg = true then (numF acc r : Int) else -1) := by
  induction r with
  | nil =>
    intro k i acc hk hd hb
    obtain ⟨k, rfl⟩ : ∃ m, k = m + 1 := ⟨k - 1, by omega⟩
    have hi : l.length ≤ i := by
      apply Classical.byContradiction
      intro hc
      rw [List.drop_eq_getElem_cons (show i < l.length by omega)] at hd
      cases hd
    simp only [fleuronref02_whole.l0]
    rw [B_size, if_neg (by omega), numF_nil]; rfl
  | cons c r ih =>
    intro k i acc hk hd hb
    obtain ⟨k, rfl⟩ : ∃ m, k = m + 1 := ⟨k - 1, by omega⟩
    obtain ⟨hbt, hi, hd2⟩ := bt_drop l i c r hd
    have hc256 := c.toNat_lt
    simp only [fleuronref02_whole.l0]
    rw [B_size, if_pos (by omega), if_pos (by omega), hbt]
    by_cases hc : isDg c = true
    · have hc2 := hc
      simp only [isDg, Bool.and_eq_true, decide_eq_true_eq] at hc2
      rw [List.length_cons, Nat.pow_succ] at hb
      obtain ⟨g1, g2, g3⟩ := ten_step acc _ c hc hb (pow_pos10 _)
      rw [if_neg (by omega), if_neg (by omega), w64 (x := 10 * (acc : Int)) (by omega) (by omega), w64 (x := 10 * (acc : Int) + ((c.toNat : Int) - 48) % 256) (by omega) (by omega), w64 (x := (i : Int) + 1) (by omega) (by omega)]
      have e : 10 * (acc : Int) + ((c.toNat : Int) - 48) % 256 = ((dgStep acc c : Nat) : Int) := by unfold dgStep; omega
      rw [e, show (i : Int) + 1 = ((i + 1 : Nat) : Int) by omega, ih k (i + 1) _ (by simp at hk; omega) hd2 g1, List.all_cons, hc, Bool.true_and, numF_cons]
    · rw [List.all_cons, Bool.eq_false_iff.2 hc, Bool.false_and]
      simp only [isDg, Bool.and_eq_true, decide_eq_true_eq] at hc
      by_cases h1 : (c.toNat : Int) < 48
      · rw [if_pos h1]; rfl
      · rw [if_neg h1, if_pos (by omega)]; rfl
theorem whole_ok (k : Nat) (hk : 12 ≤ k) (l : List UInt8) (hl : l.length ≤ 10000) : fleuronref02_whole.f k (B l) = some (if okL 1 l = true then (num l : Int) else -1) := by
  unfold fleuronref02_whole.f okL
  obtain ⟨k, rfl⟩ : ∃ m, k = m + 1 := ⟨k - 1, by omega⟩
  rw [B_size]
  simp only [fleuronref02_whole.j0]
  by_cases h1 : (l.length : Int) < 1
  · rw [if_pos h1, if_pos True.intro, decide_eq_false (show ¬ 1 ≤ l.length by omega), Bool.false_and]; rfl
  · rw [if_neg h1, decide_eq_true (show 1 ≤ l.length by omega), Bool.true_and]
    by_cases h2 : (l.length : Int) > 9
    · rw [decide_eq_true h2, if_pos rfl, decide_eq_false (show ¬ l.length ≤ 9 by omega), Bool.false_and]; rfl
    · rw [decide_eq_false h2, if_neg (by decide), decide_eq_true (show l.length ≤ 9 by omega), Bool.true_and]
      have hb : (0 + 1) * 10 ^ l.length ≤ 10000000000 := by
        have h3 : 10 ^ l.length ≤ 1000000000 := Nat.pow_le_pow_right (n := 10) (by omega) (show l.length ≤ 9 by omega)
        generalize 10 ^ l.length = P at *
        omega
      have := whole_loop l hl l k 0 0 (by omega) rfl hb
      exact this
theorem rparse_end (k : Nat) (hk : 4 ≤ k) (neg : Bool) (n v : Nat) (p : Int) (hn : n < 1000000000) (hv : v < 1000000000) (hp : 1 ≤ p ∧ p ≤ 1000000000) :
    fleuronref02_Parse.j7 k neg n v p = some (told (if neg = true then -((n : Int) * 65536 + rnd v p) else (n : Int) * 65536 + rnd v p)) := by
  obtain ⟨k, rfl⟩ : ∃ m, k = m + 3 := ⟨k - 3, by omega⟩
  simp only [fleuronref02_Parse.j7]
  rw [w64 (x := (v : Int) * 65536) (by omega) (by omega), rnear_ok _ _ (by omega) (by omega) (by omega) (by omega)]
  simp only [Option.bind_some]
  rw [show (2 * ((v : Int) * 65536) + p) / (2 * p) = rnd v p from rfl]
  have hb := rnd_bd v p hv hp
  generalize rnd v p = r at *
  rw [w64 (x := (n : Int) * 65536) (by omega) (by omega), w64 (x := (n : Int) * 65536 + r) (by omega) (by omega), w64 (x := -((n : Int) * 65536 + r)) (by omega) (by omega)]
  cases neg with
  | true => rw [if_pos rfl, if_pos rfl, rtold_ok]; rfl
  | false => rw [if_neg (by decide), if_neg (by decide), rtold_ok]; rfl
theorem rparse_ten (s : ByteArray) (hs : s.size ≤ 20000) (neg : Bool) (n v : Nat) (hn : n < 1000000000) (hv : v < 1000000000) (d : Nat) : ∀ (k : Nat) (p i : Int), d + 5 ≤ k → (s.size : Int) - i = d → 0 ≤ i → 1 ≤ p → p * 10 ^ d ≤ 1000000000 →
    fleuronref02_Parse.l1 k s neg n v p i = some (told (if neg = true then -((n : Int) * 65536 + rnd v (p * 10 ^ d)) else (n : Int) * 65536 + rnd v (p * 10 ^ d))) := by
  induction d with
  | zero =>
    intro k p i hk hd h0 h1 h2
    obtain ⟨k, rfl⟩ : ∃ m, k = m + 1 := ⟨k - 1, by omega⟩
    simp only [fleuronref02_Parse.l1]
    rw [Int.pow_zero, Int.mul_one] at *
    rw [if_neg (by omega)]
    exact rparse_end k (by omega) neg n v p hn hv ⟨h1, h2⟩
  | succ d ih =>
    intro k p i hk hd h0 h1 h2
    obtain ⟨k, rfl⟩ : ∃ m, k = m + 1 := ⟨k - 1, by omega⟩
    have e : p * 10 ^ (d + 1) = p * 10 * 10 ^ d := by rw [Int.pow_succ]; grind
    have h10 : (1 : Int) ≤ 10 ^ d := by
      have : (0 : Int) < 10 ^ d := Int.pow_pos (by omega)
      omega
    have hp : p * 10 * 1 ≤ p * 10 * 10 ^ d := Int.mul_le_mul_of_nonneg_left h10 (by omega)
    rw [e] at h2 ⊢
    simp only [fleuronref02_Parse.l1]
    rw [if_pos (by omega), w64 (x := p * 10) (by omega) (by omega), w64 (x := i + 1) (by omega) (by omega)]
    exact ih k (p * 10) (i + 1) (by omega) (by omega) (by omega) (by omega) h2
/-- Behind the number ahead of the point. -/
theorem rparse_j5 (k : Nat) (hk : 30 ≤ k) (l w part : List UInt8) (pt neg : Bool) (n : Int) (hl : l.length ≤ 10000) (hw : okL 0 w = true) (hn : n = num w) (e : (pt = true ∧ l = w ++ 46 :: part) ∨ (pt = false ∧ l = w ∧ part = [])) :
    fleuronref02_Parse.j5 k (B l) neg (w.length : Nat) n = some (if (pt = false ∨ okL 1 part = true) then readS neg w part else (0, 30)) := by
  obtain ⟨k, rfl⟩ : ∃ m, k = m + 1 := ⟨k - 1, by omega⟩
  obtain ⟨w1, w2, w3, _⟩ := num_lt 0 w hw
  simp only [fleuronref02_Parse.j5]
  rw [hn, if_neg (by omega), B_size]
  rcases e with ⟨e1, e2⟩ | ⟨e1, e2, e3⟩
  · have hll : l.length = w.length + (part.length + 1) := by rw [e2]; simp
    rw [if_pos (by omega), w64 (x := (w.length : Int) + 1) (by omega) (by omega), if_pos (by omega), if_pos (by omega), B_extract]
    have e3 : (l.take l.length).drop ((w.length : Int) + 1).toNat = part := by
      rw [List.take_length, show ((w.length : Int) + 1).toNat = w.length + 1 by omega, e2, ← List.drop_drop, List.drop_left]
      rfl
    rw [e3, whole_ok k (by omega) part (by omega)]
    simp only [Option.bind_some]
    by_cases h : okL 1 part = true
    · obtain ⟨p1, p2, p3, _⟩ := num_lt 1 part h
      obtain ⟨p, hpp⟩ : ∃ p : Int, p = 10 ^ part.length := ⟨_, rfl⟩
      have hp9 := ten_nine part.length p3
      rw [if_pos h, if_neg (by omega), if_pos (.inr h)]
      unfold readS
      rw [← hpp] at hp9 ⊢
      have := rparse_ten (B l) (by rw [B_size]; omega) neg (num w) (num part) w2 p2 part.length k 1 ((w.length : Int) + 1) (by omega) (by rw [B_size]; omega) (by omega) (by omega) (by rw [Int.one_mul, ← hpp]; exact hp9.2)
      rw [Int.one_mul, ← hpp] at this
      exact this
    · rw [if_neg h, if_pos (by omega), if_neg (by rintro (h1 | h1) <;> simp_all)]
  · subst e2 e3
    rw [if_neg (by omega), if_pos (.inl e1)]
    have := rparse_end k (by omega) neg (num l) 0 1 w2 (by omega) (by omega)
    exact this
theorem rparse_at (k : Nat) (hk : 40 ≤ k) (l w part : List UInt8) (pt neg : Bool) (hl : l.length ≤ 10000) (e : (pt = true ∧ l = w ++ 46 :: part) ∨ (pt = false ∧ l = w ∧ part = [])) :
    fleuronref02_Parse.j3 k (B l) neg (w.length : Nat) = some (if (if pt = true then okL 0 w && okL 1 part else okL 1 w) = true then readS neg w part else (0, 30)) := by
  obtain ⟨k, rfl⟩ : ∃ m, k = m + 3 := ⟨k - 3, by omega⟩
  have hwl : w.length ≤ l.length := by rcases e with ⟨_, e2⟩ | ⟨_, e2, _⟩ <;> rw [e2] <;> simp
  have body : fleuronref02_Parse.j4 (k + 2) (B l) neg (w.length : Nat) 0 true = some (if (if pt = true then okL 1 w && okL 1 part else okL 1 w) = true then readS neg w part else (0, 30)) := by
    simp only [fleuronref02_Parse.j4]
    rw [if_pos True.intro, if_pos (by omega), B_size, if_pos (by omega), B_extract, Int.toNat_natCast, List.drop_zero]
    have e3 : l.take w.length = w := by
      rcases e with ⟨_, e2⟩ | ⟨_, e2, _⟩
      · rw [e2, List.take_left]
      · rw [e2, List.take_length]
    rw [e3, whole_ok (k + 1) (by omega) w (by omega)]
    simp only [Option.bind_some]
    by_cases h : okL 1 w = true
    · have h0 : okL 0 w = true := by unfold okL at h ⊢; simp at h ⊢; exact ⟨h.1.2, h.2⟩
      rw [if_pos h, rparse_j5 (k + 1) (by omega) l w part pt neg _ hl h0 rfl e, h]
      cases pt <;> simp
    · rw [if_neg h, Bool.eq_false_iff.2 h]
      simp only [fleuronref02_Parse.j5]
      rw [if_pos (by omega)]
      cases pt <;> simp
  simp only [fleuronref02_Parse.j3]
  by_cases h0 : (w.length : Int) > 0
  · rw [if_pos h0, body]
    have : okL 0 w = okL 1 w := by unfold okL; rw [decide_eq_true (show 0 ≤ w.length by omega), decide_eq_true (show 1 ≤ w.length by omega)]
    rw [this]
  · have hw0 : w = [] := List.eq_nil_of_length_eq_zero (by omega)
    rw [if_neg h0, B_size]
    rcases e with ⟨e1, e2⟩ | ⟨e1, e2, e3⟩
    · have hll : l.length = w.length + (part.length + 1) := by rw [e2]; simp
      have hz : ((w.length : Int) == (l.length : Int)) = false := by simp; omega
      rw [hz]
      simp only [fleuronref02_Parse.j4]
      have h00 : okL 0 w = true := by rw [hw0]; rfl
      rw [if_neg (by decide), rparse_j5 (k + 1) (by omega) l w part pt neg 0 hl h00 (by rw [hw0]; rfl) (.inl ⟨e1, e2⟩), h00, e1]
      simp
    · have hz : ((w.length : Int) == (l.length : Int)) = true := by rw [e2]; simp
      rw [hz, body, e1]
      simp
theorem rparse_find (l : List UInt8) (neg : Bool) (hl : l.length ≤ 10000) (C : Nat) (v : Int × Int) (r : List UInt8) : ∀ (k i : Nat), C + r.length + 1 ≤ k → l.drop i = r →
    (∀ K, C ≤ K → fleuronref02_Parse.j3 K (B l) neg ((i + (r.takeWhile (· != 46)).length : Nat) : Int) = some v) → fleuronref02_Parse.l0 k (B l) neg i = some v := by
  induction r with
  | nil =>
    intro k i hk hd hj
    obtain ⟨k, rfl⟩ : ∃ m, k = m + 1 := ⟨k - 1, by omega⟩
    have hi : l.length ≤ i := by
      apply Classical.byContradiction
      intro hc
      rw [List.drop_eq_getElem_cons (show i < l.length by omega)] at hd
      cases hd
    simp only [fleuronref02_Parse.l0]
    rw [B_size, if_neg (by omega)]
    exact hj k (by simp at hk; omega)
  | cons c r ih =>
    intro k i hk hd hj
    obtain ⟨k, rfl⟩ : ∃ m, k = m + 1 := ⟨k - 1, by omega⟩
    obtain ⟨hbt, hi, hd2⟩ := bt_drop l i c r hd
    simp only [fleuronref02_Parse.l0]
    rw [B_size, if_pos (by omega), if_pos (by omega), hbt]
    by_cases hc : c = 46
    · subst hc
      rw [if_pos (by decide)]
      rw [List.takeWhile_cons_of_neg (by simp)] at hj
      exact hj k (by simp at hk; omega)
    · have hc2 : (c != 46) = true := by simpa using hc
      rw [List.takeWhile_cons_of_pos (p := fun x => x != 46) hc2, List.length_cons] at hj
      have hne : ¬ ((c.toNat : Int) = 46) := by
        intro h
        apply hc
        apply UInt8.toNat_inj.1
        have : (46 : UInt8).toNat = 46 := rfl
        omega
      rw [if_neg hne, w64 (x := (i : Int) + 1) (by omega) (by omega), show (i : Int) + 1 = ((i + 1 : Nat) : Int) by omega]
      exact ih k (i + 1) (by simp at hk; omega) hd2 (fun K hK => by have := hj K hK; rw [show i + ((r.takeWhile (fun x => x != 46)).length + 1) = i + 1 + (r.takeWhile (fun x => x != 46)).length by omega] at this; exact this)
theorem rparse1_ok (k : Nat) (l : List UInt8) (neg : Bool) (hl : l.length ≤ 10000) (hk : 10050 ≤ k) : fleuronref02_Parse.l0 k (B l) neg 0 = some (parse1 neg l) := by
  refine rparse_find l neg hl 40 _ l k 0 (by omega) rfl (fun K hK => ?_)
  have ht := take_drop l
  rw [Nat.zero_add]
  have := rparse_at K hK l (cutS l).1 (cutS l).2.1 (cutS l).2.2 neg hl (by
    unfold cutS
    simp only
    by_cases hd : l.dropWhile (· != 46) = []
    · right
      rw [hd] at ht ⊢
      rw [List.append_nil] at ht
      exact ⟨by simp, ht.symm, rfl⟩
    · left
      refine ⟨by simpa using hd, ?_⟩
      conv => lhs; rw [← ht]
      congr 1
      cases hq : l.dropWhile (· != 46) with
      | nil => exact absurd hq hd
      | cons c r =>
        have h1 : (c != 46) = false := by
          have := List.head_dropWhile_not (fun x : UInt8 => x != 46) (l := l) (by rw [hq]; simp)
          simpa [hq] using this
        have h2 : c = 46 := by simpa using h1
        rw [h2]; rfl)
  exact this
theorem rparse_ok (k : Nat) (l : List UInt8) (hl : l.length ≤ 10000) (hk : 10060 ≤ k) : fleuronref02_Parse.f k (B l) = some (parseS l) := by
  obtain ⟨k, rfl⟩ : ∃ m, k = m + 2 := ⟨k - 2, by omega⟩
  unfold fleuronref02_Parse.f
  rw [B_size]
  simp only [fleuronref02_Parse.j0, fleuronref02_Parse.j1]
  cases l with
  | nil => rw [if_neg (by simp), if_neg (by decide)]; exact rparse1_ok k [] false hl (by omega)
  | cons c r =>
    obtain ⟨hbt, _, _⟩ := bt_drop (c :: r) 0 c r rfl
    rw [if_pos (by simp), if_pos (by simp), show (0 : Int) = ((0 : Nat) : Int) from rfl, hbt]
    by_cases hc : c = 45
    · subst hc
      rw [show (((45 : UInt8).toNat : Int) == 45) = true from rfl, if_pos rfl, B_size, if_pos (by simp; omega), B_extract]
      have e : ((45 :: r).take (45 :: r).length).drop 1 = r := by rw [List.take_length]; rfl
      rw [e]
      exact rparse1_ok k r true (by simp at hl; omega) (by omega)
    · have hne : (((c.toNat : Nat) : Int) == 45) = false := by
        rw [beq_eq_false_iff_ne]
        intro h
        apply hc
        apply UInt8.toNat_inj.1
        have : (45 : UInt8).toNat = 45 := rfl
        omega
      rw [hne, if_neg (by decide)]
      have e : parseS (c :: r) = parse1 false (c :: r) := by
        unfold parseS
        split
        · rename_i x y h; injection h with h1 h2; exact absurd h1 hc
        · rfl
      rw [e]
      exact rparse1_ok k (c :: r) false hl (by omega)
end Go.Proofs.YtjaifahodfljkaaGreatDoor.Z
