/-
  The pure statement of FixBack: what the printed law computes is true, for every input.
-/
import Derived.Test.YtjaifahodfljkaaDoorTextD
import Derived.Test.YtjaifahodfljkaaDoorZx4
import Derived.Test.YtjaifahodfljkaaDoorZx7
namespace Go.Proofs.YtjaifahodfljkaaDoor.Z
open Go Go.RowKit Go.Proofs.YtjaifahodfljkaaDoorW.PrintWords Go.Proofs.YtjaifahodfljkaaDoorW.PrintMore

theorem awake_trueB : fleuronlaw02_awake.f 80 = some true := by decide +kernel
theorem awake_atB (k : Nat) (hk : 80 ≤ k) : fleuronlaw02_awake.f k = some true := at_rounds (fun k => fleuronlaw02_awake.mono k) hk awake_trueB
theorem bt_drop (l : List UInt8) (i : Nat) (c : UInt8) (r : List UInt8) (h : l.drop i = c :: r) : bt (B l) i = (c.toNat : Int) ∧ i < l.length ∧ l.drop (i + 1) = r := by
  have hi : i < l.length := by
    apply Classical.byContradiction
    intro hc
    rw [List.drop_of_length_le (by omega)] at h
    cases h
  have h2 := List.drop_eq_getElem_cons hi
  rw [h] at h2
  injection h2 with e1 e2
  refine ⟨?_, hi, e2.symm⟩
  unfold bt
  rw [Int.toNat_natCast, dif_pos (by rw [B_size]; exact hi), e1]
  rfl
/-- The last point's place. -/
def lastP : List UInt8 → Int → Int → Int
  | [], _, x => x
  | c :: r, i, x => lastP r (i + 1) (if c = 46 then i else x)
theorem lastP_none (r : List UInt8) : ∀ i x, (∀ c ∈ r, (c != 46) = true) → lastP r i x = x := by
  induction r with
  | nil => intro i x _; rfl
  | cons c r ih =>
    intro i x h
    have hc := h c (by simp)
    rw [bne_iff_ne] at hc
    simp only [lastP]
    rw [if_neg hc]
    exact ih _ _ (fun d hd => h d (by simp [hd]))
theorem lastP_point (x r : List UInt8) : ∀ i y, (∀ c ∈ x, (c != 46) = true) → (∀ c ∈ r, (c != 46) = true) → lastP (x ++ 46 :: r) i y = i + x.length := by
  induction x with
  | nil =>
    intro i y _ h
    rw [List.nil_append]
    simp only [lastP, if_true]
    rw [lastP_none r _ _ h]; simp
  | cons c x ih =>
    intro i y h h2
    rw [List.cons_append]
    simp only [lastP]
    rw [ih _ _ (fun d hd => h d (by simp [hd])) h2, List.length_cons]; omega
theorem find_point (a t : Int) (r : List UInt8) : ∀ (k : Nat) (l : List UInt8) (i : Nat) (x9 : Int), l.drop i = r → l.length ≤ 1000 → r.length < k → i ≤ l.length →
    fleuronlaw02_FixBack.l0 k a t (B l) x9 i = fleuronlaw02_FixBack.l0 (k - r.length) a t (B l) (lastP r i x9) l.length := by
  induction r with
  | nil =>
    intro k l i x9 h hl hk hi
    have : l.length ≤ i := by simpa using h
    have e : i = l.length := by omega
    rw [e]; rfl
  | cons c r ih =>
    intro k l i x9 h hl hk hi
    obtain ⟨k, rfl⟩ : ∃ m, k = m + 1 := ⟨k - 1, by simp at hk; omega⟩
    obtain ⟨h1, h2, h3⟩ := bt_drop l i c r h
    rw [fleuronlaw02_FixBack.l0, B_size, if_pos (by omega), if_pos (by omega), h1, w64 (x := (i : Int) + 1) (by omega) (by omega)]
    have e : (i : Int) + 1 = ((i + 1 : Nat) : Int) := by omega
    rw [e]
    simp only [lastP]
    have hk2 : r.length < k := by simp at hk; omega
    have ek : k + 1 - (c :: r).length = k - r.length := by rw [List.length_cons]; omega
    rw [ek, e]
    by_cases hc : c = 46
    · subst hc
      rw [if_pos (by rfl), if_pos rfl]
      exact ih k l (i + 1) _ h3 hl hk2 (by omega)
    · rw [if_neg (fun x => hc (UInt8.toNat_inj.1 (by have e : (46 : UInt8).toNat = 46 := rfl; omega))), if_neg hc]
      exact ih k l (i + 1) _ h3 hl hk2 (by omega)
theorem j4_ok (k : Nat) (hk : 81 ≤ k) (a : Int) (l : List UInt8) (hl : l.length ≤ 10000) (h : parseS l ≠ (a, 0)) : fleuronlaw02_FixBack.j4 k a (B l) = some true := by
  obtain ⟨k, rfl⟩ : ∃ m, k = m + 1 := ⟨k - 1, by omega⟩
  rw [fleuronlaw02_FixBack.j4, parse_ok k (by omega) l hl, awake_atB k (by omega)]
  simp only [Option.bind_some]
  by_cases h2 : (parseS l).2 = 0
  · rw [if_pos h2, if_neg (fun h1 => h (Prod.ext h1 h2))]
  · rw [if_neg h2]
theorem B_init (y : List UInt8) (c : UInt8) (hy : y.length ≤ 1000) : wrap64 (((B (y ++ [c])).size : Int) - 1) = (y.length : Int) ∧ (B (y ++ [c])).extract 0 y.length = B y := by
  rw [B_size, B_extract]
  constructor
  · have hl : (y ++ [c]).length = y.length + 1 := by simp
    rw [w64 (x := (((y ++ [c]).length : Nat) : Int) - 1) (by omega) (by omega)]; omega
  · simp
theorem bt_last (y : List UInt8) (c : UInt8) : bt (B (y ++ [c])) y.length = (c.toNat : Int) := (bt_drop (y ++ [c]) y.length c [] (by simp)).1
theorem enc_next (b : UInt8) (h : b.toNat < 57) (h0 : 48 ≤ b.toNat) : Utf8.encode (((b.toNat : Int) + 1) % 256) = B [b + 1] := by
  have : ∀ d : Fin 256, d.val < 57 → 48 ≤ d.val → Utf8.encode (((d.val : Int) + 1) % 256) = B [UInt8.ofNat d.val + 1] := by decide +kernel
  have h2 := this ⟨b.toNat, b.toNat_lt⟩ h h0
  simpa using h2
/-- The end of a string with a point. -/
theorem j3_point (k : Nat) (hk : 90 ≤ k) (a t : Int) (x q : List UInt8) (c : UInt8) (hx : x.length ≤ 10) (hq : q.length ≤ 6)
    (h0 : q = [] → parseS x ≠ (a, 0)) (h1 : q ≠ [] → parseS (x ++ 46 :: q) ≠ (a, 0))
    (h2 : ∀ (p : List UInt8) (b : UInt8), q = p ++ [b] → b.toNat < 57 → 48 ≤ b.toNat ∧ parseS (x ++ 46 :: (p ++ [b + 1])) ≠ (a, 0)) :
    fleuronlaw02_FixBack.j3 k a t (B (x ++ 46 :: (q ++ [c]))) x.length false = some true := by
  obtain ⟨k, rfl⟩ : ∃ m, k = m + 1 := ⟨k - 1, by omega⟩
  have e : x ++ 46 :: (q ++ [c]) = (x ++ 46 :: q) ++ [c] := by simp
  rw [e]
  obtain ⟨i1, i2⟩ := B_init (x ++ 46 :: q) c (by simp; omega)
  have hl : (x ++ 46 :: q).length = x.length + q.length + 1 := by simp; omega
  have hs : (((B ((x ++ 46 :: q) ++ [c])).size : Nat) : Int) = ((x ++ 46 :: q).length : Int) + 1 := by rw [B_size]; simp; omega
  rw [fleuronlaw02_FixBack.j3, if_neg (by decide), if_pos (by omega)]
  simp only [i1, i2, Int.toNat_natCast]
  rw [hs, if_pos (by omega), if_pos (by omega), w64 (x := ((x ++ 46 :: q).length : Int) + 1 - x.length) (by omega) (by omega)]
  cases hq0 : q with
  | nil =>
    subst hq0
    rw [if_pos (by simp at hl ⊢; omega), if_pos (by omega), if_pos (by omega)]
    have ex : (B ((x ++ [46]) ++ [c])).extract 0 x.length = B x := by rw [B_extract]; simp
    rw [ex]
    exact j4_ok k (by omega) a x (by omega) (h0 rfl)
  | cons d r =>
    have hne : q ≠ [] := by rw [hq0]; simp
    rw [← hq0]
    have hqp : 0 < q.length := by rw [hq0]; simp
    rw [if_neg (by omega)]
    have hgo : fleuronlaw02_FixBack.j4 k a (B (x ++ 46 :: q)) = some true := j4_ok k (by omega) a _ (by omega) (h1 hne)
    by_cases ht : Int.tmod t 2 = 1
    · rw [if_pos ht]
      obtain ⟨p, b, hp⟩ : ∃ p b, q = p ++ [b] := ⟨q.dropLast, q.getLast hne, (List.dropLast_concat_getLast hne).symm⟩
      have e2 : x ++ 46 :: q = (x ++ 46 :: p) ++ [b] := by rw [hp]; simp
      obtain ⟨n1, n2⟩ := B_init (x ++ 46 :: p) b (by have := congrArg List.length hp; simp at this ⊢; omega)
      rw [e2] at hgo ⊢
      simp only [n1, n2, Int.toNat_natCast, bt_last]
      have hs2 : (((B ((x ++ 46 :: p) ++ [b])).size : Nat) : Int) = ((x ++ 46 :: p).length : Int) + 1 := by rw [B_size]; simp; omega
      rw [hs2, if_pos (by omega), if_pos (by omega)]
      by_cases hb : (b.toNat : Int) < 57
      · obtain ⟨b0, b1⟩ := h2 p b hp (by omega)
        rw [if_pos hb, if_pos (by omega), enc_next b (by omega) b0, if_pos (by rw [B_size, B_size]; have := congrArg List.length hp; simp at this ⊢; omega), B_app]
        have e3 : (x ++ 46 :: p) ++ [b + 1] = x ++ 46 :: (p ++ [b + 1]) := by simp
        rw [e3]
        exact j4_ok k (by omega) a _ (by have := congrArg List.length hp; simp at this ⊢; omega) b1
      · rw [if_neg hb]; exact hgo
    · rw [if_neg ht]; exact hgo
theorem sg_ok (a : Int) : (sg a).length ≤ 1 ∧ ∀ c ∈ sg a, (c != 46) = true := by
  unfold sg
  by_cases h : a < 0
  · rw [if_pos h]; simp
  · rw [if_neg h]; simp
theorem inc_dg (b : UInt8) (h : isDg b = true) (hb : b.toNat < 57) : isDg (b + 1) = true := by
  have : ∀ d : Fin 256, isDg (UInt8.ofNat d.val) = true → d.val < 57 → isDg (UInt8.ofNat d.val + 1) = true := by decide +kernel
  have h2 := this ⟨b.toNat, b.toNat_lt⟩
  simp only [UInt8.ofNat_toNat] at h2
  exact h2 h hb
theorem FixBack : fleuronlaw02_FixBack.Pure := by
  intro a t _ _
  refine ⟨400, ?_⟩
  unfold fleuronlaw02_FixBack.f
  rw [text_ok 400 (by omega)]
  simp only [Option.bind_some]
  by_cases h : isFix a = true
  · have h' := (isFix_iff a).1 h
    rw [if_pos h, if_neg (by omega), decide_eq_false (by omega)]
    have hlen : (textS a).length ≤ 20 := by
      obtain ⟨hl1, hl2⟩ := whole_len a h
      obtain ⟨hs, _⟩ := sg_ok a
      rcases textS_is a with ⟨h0, e⟩ | ⟨h0, m, m1, m5, e, hg, _⟩
      · rw [e]; simp; omega
      · obtain ⟨g1, _⟩ := digits_lt _ m (by omega) hg
        obtain ⟨_, p2, _⟩ := padded_ok _ m g1 m1
        rw [e]; simp only [List.length_append, List.length_cons, p2]; omega
    simp only [fleuronlaw02_FixBack.j0, Bool.false_eq_true, if_false]
    rw [parse_ok 399 (by omega) _ (by omega), parse_textS a h]
    simp only [Option.bind_some, if_true, bne_self_eq_false]
    simp only [fleuronlaw02_FixBack.j1, Bool.false_eq_true, if_false]
    have hfind := find_point a t (textS a) 398 (textS a) 0 (-1) rfl (by omega) (by omega) (by omega)
    rw [show ((0 : Nat) : Int) = 0 from rfl] at hfind
    rw [hfind]
    obtain ⟨K, hK, hK2⟩ : ∃ K, 398 - (textS a).length = K + 1 ∧ 300 ≤ K := ⟨397 - (textS a).length, by omega, by omega⟩
    rw [hK, fleuronlaw02_FixBack.l0, B_size, if_neg (by omega)]
    have htm : (Int.tmod a 65536 = 0) ↔ a.natAbs % 65536 = 0 := by
      constructor
      · intro hh
        have := Int.natAbs_tmod a 65536
        rw [hh] at this; simpa using this.symm
      · intro hh
        have := Int.natAbs_tmod a 65536
        rw [show (65536 : Int).natAbs = 65536 from rfl, hh] at this
        exact Int.natAbs_eq_zero.1 this
    obtain ⟨hl1, hl2⟩ := whole_len a h
    obtain ⟨hs, hsd⟩ := sg_ok a
    obtain ⟨d1, d2⟩ := dec_all (a.natAbs / 65536)
    rcases textS_is a with ⟨h0, e⟩ | ⟨h0, m, m1, m5, e, hg, hmin⟩
    · have hp : lastP (textS a) 0 (-1) = -1 := by
        refine lastP_none _ _ _ ?_
        rw [e]
        intro c hc
        rw [List.append_nil, List.mem_append] at hc
        rcases hc with hc | hc
        · exact hsd c hc
        · exact no_dot _ d1 c hc
      rw [hp, htm.2 h0, if_neg (by decide), if_neg (by decide)]
      obtain ⟨K, rfl⟩ : ∃ m, K = m + 1 := ⟨K - 1, by omega⟩
      rw [fleuronlaw02_FixBack.j3, if_neg (by decide), if_neg (by decide), awake_atB K (by omega)]
      rfl
    · obtain ⟨g1, _⟩ := digits_lt _ m (by omega) hg
      obtain ⟨p1, p2, _⟩ := padded_ok _ m g1 m1
      generalize hQ : padded (nst (a.natAbs % 65536 : Nat) (10 ^ m)).toNat m = Q at *
      have hX : ∀ c ∈ sg a ++ Lib.decDigits (a.natAbs / 65536), (c != 46) = true := by
        intro c hc
        rw [List.mem_append] at hc
        rcases hc with hc | hc
        · exact hsd c hc
        · exact no_dot _ d1 c hc
      have e' : textS a = (sg a ++ Lib.decDigits (a.natAbs / 65536)) ++ 46 :: Q := by rw [e]; simp
      have hp : lastP (textS a) 0 (-1) = ((sg a ++ Lib.decDigits (a.natAbs / 65536)).length : Int) := by
        rw [e', lastP_point _ _ _ _ hX (no_dot Q p1)]; omega
      have hXl : (sg a ++ Lib.decDigits (a.natAbs / 65536)).length ≤ 6 := by rw [List.length_append]; omega
      have hL : (textS a).length = (sg a ++ Lib.decDigits (a.natAbs / 65536)).length + 1 + m := by rw [e', List.length_append, List.length_cons, p2]; omega
      have hne : (Int.tmod a 65536 == 0) = false := by
        rw [beq_eq_false_iff_ne]
        exact fun hh => h0 (htm.1 hh)
      have hd : decide (lastP (textS a) 0 (-1) < 0) = false := by rw [hp]; exact decide_eq_false (by omega)
      rw [hd, hne, if_neg (by decide), if_pos (by omega), hp, w64 (x := ((textS a).length : Int) - ((sg a ++ Lib.decDigits (a.natAbs / 65536)).length : Int)) (by omega) (by omega), decide_eq_false (by omega), e']
      have hQn : Q ≠ [] := by intro hh; rw [hh] at p2; simp at p2; omega
      obtain ⟨q, c, hq⟩ : ∃ q c, Q = q ++ [c] := ⟨Q.dropLast, Q.getLast hQn, (List.dropLast_concat_getLast hQn).symm⟩
      have hql : q.length + 1 = m := by rw [← p2, hq]; simp
      rw [hq] at p1 ⊢
      have hqa : q.all isDg = true := by rw [List.all_append, Bool.and_eq_true] at p1; exact p1.1
      refine j3_point K (by omega) a t _ q c (by omega) (by omega) ?_ ?_ ?_
      · intro _
        have := plain_no a h h0
        rw [List.append_nil] at this; exact this
      · intro hn
        have h1 : 1 ≤ q.length := by
          have : q.length ≠ 0 := fun hh => hn (List.length_eq_zero_iff.1 hh)
          omega
        have := short_no a q h hqa h1 (by omega) (hmin _ h1 (by omega))
        rw [List.append_assoc]; exact this
      · intro p b hpb hb
        rw [hpb, List.all_append, Bool.and_eq_true] at hqa
        have hbd : isDg b = true := by simpa using hqa.2
        have hlp : (p ++ [b + 1]).length = q.length := by rw [hpb]; simp
        refine ⟨?_, ?_⟩
        · simp only [isDg, Bool.and_eq_true, decide_eq_true_eq] at hbd; exact hbd.1
        · have h1 : 1 ≤ (p ++ [b + 1]).length := by simp
          have := short_no a (p ++ [b + 1]) h (by rw [List.all_append, hqa.1, List.all_cons, List.all_nil, inc_dg b hbd hb]; rfl) h1 (by omega) (hmin _ h1 (by omega))
          rw [List.append_assoc]; exact this
  · have h' := (isFix_not a).1 (by simpa using h)
    rw [if_neg h]
    have hB : ((B [], 2) : ByteArray × Int).1.toList = [] := by rw [ByteArray.toList_eq]; rfl
    have hj : fleuronlaw02_FixBack.j0 400 a t (B []) 2 true = some true := by
      simp only [fleuronlaw02_FixBack.j0, if_true]
      rw [if_pos hB, awake_atB 399 (by omega)]
      rfl
    by_cases h1 : a < -2147483647
    · rw [if_pos h1]; exact hj
    · rw [if_neg h1, decide_eq_true (by omega)]; exact hj
end Go.Proofs.YtjaifahodfljkaaDoor.Z
