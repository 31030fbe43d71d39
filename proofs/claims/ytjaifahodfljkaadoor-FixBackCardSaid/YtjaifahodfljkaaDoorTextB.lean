/-
  What fix.Text writes: the sign, the digits ahead of the point, the fewest digits behind it.
-/
import Derived.Test.YtjaifahodfljkaaDoorTextA
import Derived.Test.YtjaifahodfljkaaDoorZx1
import Derived.Test.YtjaifahodfljkaaDoorZx2
namespace Go.Proofs.YtjaifahodfljkaaDoor.Z
open Go Go.RowKit Go.Proofs.YtjaifahodfljkaaDoorW.PrintWords Go.Proofs.YtjaifahodfljkaaDoorW.PrintMore

/-- A string by its bytes. -/
def B (l : List UInt8) : ByteArray := ⟨l.toArray⟩
theorem B_app (a b : List UInt8) : B a ++ B b = B (a ++ b) := by
  apply ByteArray.ext
  rw [ByteArray.data_append]
  simp [B]
theorem B_size (l : List UInt8) : (B l).size = l.length := by simp [B, ByteArray.size]
theorem B_data (l : List UInt8) : (B l).data.toList = l := by simp [B]
theorem B_of (s : ByteArray) : s = B s.data.toList := by
  apply ByteArray.ext
  simp [B]
theorem B_inj {a b : List UInt8} (h : B a = B b) : a = b := by
  have := congrArg (fun s : ByteArray => s.data.toList) h
  simpa [B_data] using this

def fracN : Nat → Int → Nat → Int → List UInt8
  | 0, _, _, _ => []
  | j + 1, f, n, p => if good f p = true then padded (nst f p).toNat n else fracN j f (n + 1) (p * 10)
def fracS (f : Int) : List UInt8 := if f = 0 then [] else 46 :: fracN 5 f 1 10
def textS (a : Int) : List UInt8 := (if a < 0 then [45] else []) ++ (Lib.decDigits (a.natAbs / 65536) ++ fracS (a.natAbs % 65536 : Nat))

theorem power_loop (d : Nat) : ∀ (k : Nat) (p n i : Int), d < k → n - i = d → 0 ≤ i → n ≤ 9 → 0 ≤ p → p * 10 ^ d ≤ 1000000000 → fix_power.l0 k p n i = some (p * 10 ^ d) := by
  induction d with
  | zero =>
    intro k p n i hk hd h0 h1 h2 h3
    obtain ⟨k, rfl⟩ : ∃ m, k = m + 1 := ⟨k - 1, by omega⟩
    simp only [fix_power.l0]
    rw [if_neg (by omega)]; simp
  | succ d ih =>
    intro k p n i hk hd h0 h1 h2 h3
    obtain ⟨k, rfl⟩ : ∃ m, k = m + 1 := ⟨k - 1, by omega⟩
    simp only [fix_power.l0]
    have e : p * 10 ^ (d + 1) = p * 10 * 10 ^ d := by rw [Int.pow_succ]; grind
    have h10 : (1 : Int) ≤ 10 ^ d := by
      have : (0 : Int) < 10 ^ d := Int.pow_pos (by omega)
      omega
    have hp : p * 10 * 1 ≤ p * 10 * 10 ^ d := Int.mul_le_mul_of_nonneg_left h10 (by omega)
    rw [if_pos (by omega), w64 (x := p * 10) (by omega) (by omega), w64 (x := i + 1) (by omega) (by omega), ih k (p * 10) n (i + 1) (by omega) (by omega) (by omega) h1 (by omega) (by omega), e]
theorem power_ok (k n : Nat) (hk : n < k) (hn : n ≤ 9) : fix_power.f k n = some (10 ^ n) := by
  unfold fix_power.f
  have h : (10 : Int) ^ n ≤ 1000000000 := by
    have : ∀ j : Fin 10, (10 : Int) ^ j.val ≤ 1000000000 := by decide
    exact this ⟨n, by omega⟩
  rw [power_loop n k 1 n 0 hk (by omega) (by omega) (by omega) (by omega) (by omega)]
  simp
theorem itoa_ok (a : Int) (h0 : 0 ≤ a) (h1 : a ≤ 9223372036854775807) : strconv_Itoa.f a = some (B (Lib.decDigits a.toNat)) := by
  unfold strconv_Itoa.f Lib.itoa
  rw [if_pos (by omega), if_pos h1, if_neg (by omega)]; rfl
theorem repeat_ok (c : Nat) (h : c ≤ 1000) : strings_Repeat.f ⟨#[48]⟩ (c : Int) = some (B (List.replicate c 48)) := by
  unfold strings_Repeat.f
  have e : (⟨#[48]⟩ : ByteArray).size = 1 := rfl
  rw [if_pos (by omega), if_pos (by omega), e, if_pos (by omega), Int.toNat_natCast]
  have := repeat_zero c
  simp only [this, B]
theorem l1_eq (k : Nat) (x5 : ByteArray) (x6 x7 x8 x9 x10 x11 : Int) : fix_Text.l1 (k + 1) x5 x6 x7 x8 x9 x10 x11 = if x11 ≤ (wrap64 (x9 + 1)) then (fix_Text.j3 k x5 x6 x7 x8 x9 x10 x11 (decide (x11 < x8))) else (fix_Text.j3 k x5 x6 x7 x8 x9 x10 x11 false) := by
  rw [fix_Text.l1]
theorem j3_true (k : Nat) (x5 : ByteArray) (x6 x7 x8 x9 x10 x11 : Int) : fix_Text.j3 (k + 1) x5 x6 x7 x8 x9 x10 x11 true = ((fix_Round.f (wrap64 (x11 * 65536)) x8).bind fun t131 => (if t131 = x6 then (if x10 < 0 then (fix_Text.l1 k x5 x6 x7 x8 x9 x11 (wrap64 (x11 + 1))) else (if (wrap64 ((wrap64 (x11 * 65536)) - (wrap64 (x6 * x8)))) < (wrap64 ((wrap64 (x6 * x8)) - (wrap64 (x10 * 65536)))) then (fix_Text.l1 k x5 x6 x7 x8 x9 x11 (wrap64 (x11 + 1))) else (fix_Text.l1 k x5 x6 x7 x8 x9 x10 (wrap64 (x11 + 1))))) else (fix_Text.l1 k x5 x6 x7 x8 x9 x10 (wrap64 (x11 + 1))))) := by
  rw [fix_Text.j3, if_pos rfl]
/-- The last step of a search: the digits were found. -/
theorem text_found (k : Nat) (x : List UInt8) (f p l v : Int) (n : Nat) (d : Int) (hx : x.length ≤ 100) (hn : 1 ≤ n) (hn5 : n ≤ 5) (hd0 : 0 ≤ d) (hd : d < 10 ^ n) :
    fix_Text.j3 (k + 1) (B x) f n p l d v false = some (B (x ++ 46 :: padded d.toNat n), 0) := by
  simp only [fix_Text.j3]
  have hlen := decDigits_len n d.toNat (by
    have e : ((10 ^ n : Nat) : Int) = (10 : Int) ^ n := by simp
    omega) hn
  rw [if_neg (by decide), if_pos (by omega), itoa_ok d hd0 (by
    have : ∀ j : Fin 10, (10 : Int) ^ j.val ≤ 1000000000 := by decide
    have := this ⟨n, by omega⟩
    simp only at this
    omega)]
  simp only [Option.bind_some, B_size]
  rw [if_pos (by omega), w64 (x := (n : Int) - ((Lib.decDigits d.toNat).length : Int)) (by omega) (by omega), show (n : Int) - ((Lib.decDigits d.toNat).length : Int) = ((n - (Lib.decDigits d.toNat).length : Nat) : Int) by omega, repeat_ok _ (by omega)]
  simp only [Option.bind_some]
  rw [show (⟨#[46]⟩ : ByteArray) = B [46] from rfl]
  simp only [B_app, B_size, List.length_append, List.length_cons, List.length_nil, List.length_replicate]
  rw [if_pos (by omega), if_pos (by omega)]
  unfold padded
  simp
theorem text_next (k : Nat) (x : List UInt8) (f p l v d : Int) (n : Nat) (hn5 : n ≤ 5) (hd : d < 0) :
    fix_Text.j3 (k + 1) (B x) f n p l d v false = fix_Text.l0 k (B x) f ((n + 1 : Nat) : Int) := by
  simp only [fix_Text.j3]
  rw [if_neg (by decide), if_neg (by omega), w64 (x := (n : Int) + 1) (by omega) (by omega)]
  rfl
theorem round_v (v p : Int) (hv0 : 0 ≤ v) (hv : v ≤ 100001) (hp : 0 < p) (hp1 : p ≤ 1000000000) : fix_Round.f (wrap64 (v * 65536)) p = some (rnd v p) := by
  rw [w64 (x := v * 65536) (by omega) (by omega), round_ok _ _ (by omega) (by omega) (by omega) (by omega) (by omega) (by omega)]
  rfl
/-- A search with so many digits: what is found is 'pick2'. -/
theorem text_search (k : Nat) (hk : 6 ≤ k) (x : List UInt8) (f p : Int) (n : Nat) (hx : x.length ≤ 100) (hn : 1 ≤ n) (hn5 : n ≤ 5) (hp : p = 10 ^ n) (hf0 : 0 ≤ f) (hf : f ≤ 65535) :
    fix_Text.l1 k (B x) f n p (f * p / 65536) (-1) (f * p / 65536) = (if good f p = true then some (B (x ++ 46 :: padded (nst f p).toNat n), 0) else fix_Text.l0 (if f * p / 65536 + 1 < p then k - 6 else k - 4) (B x) f ((n + 1 : Nat) : Int)) := by
  have hpp : 0 < p ∧ p ≤ 100000 := by
    have h : ∀ j : Fin 6, (0 : Int) < 10 ^ j.val ∧ (10 : Int) ^ j.val ≤ 100000 := by decide
    have := h ⟨n, by omega⟩
    simp only at this
    rw [hp]; exact this
  obtain ⟨l0, l1⟩ := low_lt f p hpp.1 hf0 hf
  have hpick := pick_is f p hpp.1 hf0 hf
  have hfp1 : f * p ≤ 65535 * 100000 := Int.mul_le_mul hf hpp.2 (by omega) (by omega)
  have hfp0 : 0 ≤ f * p := Int.mul_nonneg hf0 (by omega)
  have step1 : ∀ K, fix_Text.l1 (K + 2) (B x) f n p (f * p / 65536) (-1) (f * p / 65536) = fix_Text.l1 K (B x) f n p (f * p / 65536) (pick1 f p) (f * p / 65536 + 1) := by
    intro K
    rw [l1_eq, w64 (x := f * p / 65536 + 1) (by omega) (by omega), if_pos (by omega), decide_eq_true l1, j3_true, w64 (x := f * p / 65536 + 1) (by omega) (by omega), round_v _ _ l0 (by omega) hpp.1 (by omega)]
    simp only [Option.bind_some]
    unfold pick1
    by_cases c : rnd (f * p / 65536) p = f
    · rw [if_pos c, if_pos c, if_pos (by omega)]
    · rw [if_neg c, if_neg c]
  have hp1 : -1 ≤ pick1 f p ∧ pick1 f p ≤ f * p / 65536 := by unfold pick1; split <;> omega
  have fin : ∀ K v, pick2 f p = pick2 f p → fix_Text.j3 (K + 1) (B x) f n p (f * p / 65536) (pick2 f p) v false = (if good f p = true then some (B (x ++ 46 :: padded (nst f p).toNat n), 0) else fix_Text.l0 K (B x) f ((n + 1 : Nat) : Int)) := by
    intro K v _
    rw [hpick]
    by_cases g : good f p = true
    · rw [if_pos g, if_pos g]
      have := (good_iff f p).1 g
      exact text_found K x f p _ v n _ hx hn hn5 (nst_nonneg f p hpp.1 hf0) (by rw [← hp]; exact this.1)
    · rw [if_neg g, if_neg g]
      exact text_next K x f p _ v (-1) n hn5 (by omega)
  obtain ⟨K, rfl⟩ : ∃ m, k = m + 6 := ⟨k - 6, by omega⟩
  rw [step1 (K + 4)]
  by_cases c : f * p / 65536 + 1 < p
  · have step2 : fix_Text.l1 (K + 4) (B x) f n p (f * p / 65536) (pick1 f p) (f * p / 65536 + 1) = fix_Text.l1 (K + 2) (B x) f n p (f * p / 65536) (pick2 f p) (f * p / 65536 + 2) := by
      rw [l1_eq, w64 (x := f * p / 65536 + 1) (by omega) (by omega), if_pos (by omega), decide_eq_true c, j3_true, round_v _ _ (by omega) (by omega) hpp.1 (by omega)]
      simp only [Option.bind_some]
      rw [w64 (x := f * p / 65536 + 1 + 1) (by omega) (by omega), w64 (x := (f * p / 65536 + 1) * 65536) (by omega) (by omega), w64 (x := f * p) (by omega) (by omega), w64 (x := pick1 f p * 65536) (by omega) (by omega),
        w64 (x := (f * p / 65536 + 1) * 65536 - f * p) (by omega) (by omega), w64 (x := f * p - pick1 f p * 65536) (by omega) (by omega), show f * p / 65536 + 1 + 1 = f * p / 65536 + 2 by omega]
      unfold pick2
      by_cases c1 : rnd (f * p / 65536 + 1) p = f
      · rw [if_pos c1]
        by_cases c2 : pick1 f p < 0
        · rw [if_pos c2, if_pos (And.intro c (And.intro c1 (Or.inl c2)))]
        · rw [if_neg c2]
          by_cases c3 : (f * p / 65536 + 1) * 65536 - f * p < f * p - pick1 f p * 65536
          · rw [if_pos c3, if_pos (And.intro c (And.intro c1 (Or.inr c3)))]
          · rw [if_neg c3, if_neg (by rintro ⟨_, _, h | h⟩ <;> contradiction)]
      · rw [if_neg c1, if_neg (by rintro ⟨_, h, _⟩; contradiction)]
    rw [step2, if_pos c, l1_eq, w64 (x := f * p / 65536 + 1) (by omega) (by omega), if_neg (by omega)]
    exact fin K _ rfl
  · have e2 : pick2 f p = pick1 f p := by unfold pick2; rw [if_neg (by rintro ⟨h, _⟩; contradiction)]
    rw [if_neg c, ← e2, l1_eq, w64 (x := f * p / 65536 + 1) (by omega) (by omega), if_pos (by omega), decide_eq_false c]
    exact fin (K + 2) _ rfl
theorem text_frac (j : Nat) : ∀ (k : Nat) (x : List UInt8) (f p : Int) (n : Nat), 20 * j + 20 ≤ k → x.length ≤ 100 → 1 ≤ n → n + j = 6 → p = 10 ^ n → 0 ≤ f → f ≤ 65535 → 1 ≤ j →
    fix_Text.l0 k (B x) f n = some (B (x ++ 46 :: fracN j f n p), 0) := by
  induction j with
  | zero => intro k x f p n hk hx hn hj hp hf0 hf h1; omega
  | succ j ih =>
    intro k x f p n hk hx hn hj hp hf0 hf h1
    obtain ⟨k, rfl⟩ : ∃ m, k = m + 1 := ⟨k - 1, by omega⟩
    have hpp : 0 < p ∧ p ≤ 100000 := by
      have h : ∀ j : Fin 6, (0 : Int) < 10 ^ j.val ∧ (10 : Int) ^ j.val ≤ 100000 := by decide
      have := h ⟨n, by omega⟩
      simp only at this
      rw [hp]; exact this
    have hfp1 : f * p ≤ 65535 * 100000 := Int.mul_le_mul hf hpp.2 (by omega) (by omega)
    have hfp0 : 0 ≤ f * p := Int.mul_nonneg hf0 (by omega)
    simp only [fix_Text.l0, fracN]
    rw [power_ok k n (by omega) (by omega), ← hp]
    simp only [Option.bind_some]
    rw [w64 (x := f * p) (by omega) (by omega), Int.tdiv_eq_ediv_of_nonneg hfp0, w64 (x := f * p / 65536) (by omega) (by omega), text_search k (by omega) x f p n hx hn (by omega) hp hf0 hf]
    by_cases g : good f p = true
    · rw [if_pos g, if_pos g]
    · rw [if_neg g, if_neg g]
      have hj1 : 1 ≤ j := by
        apply Classical.byContradiction
        intro hc
        have hn5 : n = 5 := by omega
        subst hn5
        apply g
        rw [hp]
        exact good_five f hf0 hf
      exact ih _ x f (p * 10) (n + 1) (by split <;> omega) hx (by omega) (by omega) (by rw [hp, Int.pow_succ]) hf0 hf hj1
theorem text_pos (k : Nat) (hk : 130 ≤ k) (s : List UInt8) (hs : s.length ≤ 1) (m : Int) (h0 : 0 ≤ m) (h1 : m ≤ 2147483647) :
    fix_Text.j0 k m (B s) = some (B (s ++ (Lib.decDigits (m.toNat / 65536) ++ fracS (m.toNat % 65536 : Nat))), 0) := by
  obtain ⟨k, rfl⟩ : ∃ m, k = m + 1 := ⟨k - 1, by omega⟩
  simp only [fix_Text.j0]
  rw [Int.tdiv_eq_ediv_of_nonneg h0, Int.tmod_eq_emod_of_nonneg h0, w64 (x := m / 65536) (by omega) (by omega), itoa_ok _ (by omega) (by omega)]
  simp only [Option.bind_some, B_app, B_size]
  have hl := decDigits_len 5 (m.toNat / 65536) (by omega) (by omega)
  have e1 : (m / 65536).toNat = m.toNat / 65536 := by omega
  have e2 : ((m.toNat % 65536 : Nat) : Int) = m % 65536 := by omega
  rw [e1, e2, if_pos (by omega)]
  unfold fracS
  by_cases hz : m % 65536 = 0
  · rw [if_pos hz, if_pos hz, List.append_nil]
  · rw [if_neg hz, if_neg hz]
    have := text_frac 5 k (s ++ Lib.decDigits (m.toNat / 65536)) (m % 65536) 10 1 (by omega) (by simp; omega) (by omega) (by omega) (by decide) (by omega) (by omega) (by omega)
    rw [List.append_assoc] at this
    exact this
theorem text_ok (k : Nat) (hk : 140 ≤ k) (a : Int) : fix_Text.f k a = some (if isFix a = true then (B (textS a), 0) else (B [], 2)) := by
  unfold fix_Text.f
  obtain ⟨k, rfl⟩ : ∃ m, k = m + 2 := ⟨k - 2, by omega⟩
  rw [fixed_one]; simp only [Option.bind_some]
  by_cases h : isFix a = true
  · rw [if_pos h, if_pos h]
    rw [isFix_iff] at h
    unfold textS
    by_cases h0 : a < 0
    · rw [if_pos h0, if_pos h0, w64 (x := -a) (by omega) (by omega), show (⟨#[45]⟩ : ByteArray) = B [45] from rfl, text_pos _ (by omega) [45] (by simp) (-a) (by omega) (by omega), show (-a).toNat = a.natAbs by omega]
    · rw [if_neg h0, if_neg h0, show (⟨#[]⟩ : ByteArray) = B [] from rfl, text_pos _ (by omega) [] (by simp) a (by omega) (by omega), show a.toNat = a.natAbs by omega]
  · rw [if_neg h, if_neg h]; rfl
end Go.Proofs.YtjaifahodfljkaaDoor.Z
