/-
  PathsEnds, plainly: the printed functions answer true; no condition but the sizes named.
-/
import Derived.Test.YtjfpcgkgdajcfaaGreatDoorPureSub
open Go Go.Ev
namespace Go.Proofs.YtjfpcgkgdajcfaaGreatDoor
set_option linter.unusedSimpArgs false
set_option linter.unusedVariables false
section
variable {l : List (Int × Int)} {c : Bool} {k : Nat}
theorem rdv_exact {w : Nat} (h : w ≤ 65536) : rdv (w64 ((w : Int) * 65536)) ((65536 : Nat) : Int) = (w : Int) := by
  unfold rdv
  rw [show ((65536 : Nat) : Int) = 65536 from rfl, show w64 (2 * 65536) = 131072 by decide, w64_id (x := (w : Int) * 65536) (by omega) (by omega), w64_id (x := 2 * ((w : Int) * 65536)) (by omega) (by omega), w64_id (x := 2 * ((w : Int) * 65536) + 65536) (by omega) (by omega), Int.tmod_eq_emod_of_nonneg (by omega), Int.tdiv_eq_ediv_of_nonneg (by omega)]
  rw [decide_eq_false (by omega), cond_false, w64_id (by omega) (by omega)]
  omega
theorem last_eq {lo hi p : Nat} (hh : 0 < hi) (hn : hi ≤ l.length / 3 * 65536) (hp : (p = hi ∧ 3 * (hi / 65536) < l.length) ∨ (p = 0 ∧ hi = l.length / 3 * 65536 ∧ l.length % 3 = 0)) :
    p3 (cut l lo hi ((hi + 65535) / 65536 - 1)) = pnt l p := by
  unfold cut cutS
  by_cases hA : min (hi - ((hi + 65535) / 65536 - 1) * 65536) 65536 < 65536
  · have e1 : (hi + 65535) / 65536 - 1 = hi / 65536 := by omega
    have e2 : min (hi - hi / 65536 * 65536) 65536 = hi % 65536 := by omega
    have e3 : p = hi := by rcases hp with h | h <;> omega
    rw [if_pos hA, e1, e2, e3]
    unfold pnt
    rw [if_pos (show 0 < hi % 65536 by omega)]
    split <;> rfl
  · have e0 : hi % 65536 = 0 := by omega
    have e1 : (hi + 65535) / 65536 - 1 + 1 = hi / 65536 := by omega
    rw [if_neg hA]
    have e4 : pnt l p = p3 (sg l ((hi + 65535) / 65536 - 1)) := by
      unfold pnt
      have e5 : ¬ 0 < p % 65536 := by rcases hp with h | h <;> omega
      rw [if_neg e5]
      show _ = l.getD ((3 * ((hi + 65535) / 65536 - 1) + 3) % l.length) (0, 0)
      congr 1
      rcases hp with ⟨h1, h2⟩ | ⟨h1, h2, h3⟩
      · rw [Nat.mod_eq_of_lt (by omega)]; omega
      · rw [show 3 * ((hi + 65535) / 65536 - 1) + 3 = l.length by omega, Nat.mod_self]; omega
    rw [e4]
    split <;> rfl
theorem first_eq {lo hi : Nat} (hh : lo < hi) (hn : hi ≤ l.length / 3 * 65536) : p0 (cut l lo hi (lo / 65536)) = pnt l lo ∨ (0 < lo % 65536 ∧ lo / 65536 = hi / 65536) := by
  unfold cut cutS
  by_cases hB : 0 < lo - lo / 65536 * 65536
  · by_cases hA : min (hi - lo / 65536 * 65536) 65536 < 65536
    · right; omega
    · left
      have e1 : min (hi - lo / 65536 * 65536) 65536 = 65536 := by omega
      have e2 : lo - lo / 65536 * 65536 = lo % 65536 := by omega
      rw [if_neg hA, if_pos hB, e1, e2, rdv_exact (by omega)]
      unfold pnt
      rw [if_pos (show 0 < lo % 65536 by omega)]
      rfl
  · left
    unfold pnt
    rw [if_neg (show ¬ 0 < lo % 65536 by omega), if_neg hB, if_neg hB]
    have : 3 * (lo / 65536) % l.length = 3 * (lo / 65536) := Nat.mod_eq_of_lt (by omega)
    rw [← this]
    split <;> rfl
/-- The place of a time that is one. -/
def plc' (l : List (Int × Int)) (c : Bool) (a : Nat) : Nat := if c = true ∧ a = l.length / 3 * 65536 then 0 else a
theorem plI_of {a : Nat} (hv : vld l c = true) (ha : a ≤ l.length / 3 * 65536) : plI l c (a : Int) = (plc' l c a : Int) := by
  obtain ⟨hp, hn, hc, ho⟩ := vld_pos hv
  have hM : M l = ((l.length / 3 * 65536 : Nat) : Int) := by unfold M; omega
  unfold plI plc'
  cases c with
  | false =>
    simp only [cond_false]
    rw [if_neg (by simp)]
    unfold mx2 mn2
    split <;> split <;> omega
  | true =>
    have := hc rfl
    simp only [cond_true]
    rw [hM]
    by_cases h : a = l.length / 3 * 65536
    · rw [if_pos ⟨trivial, h⟩, ← h]; simp
    · rw [if_neg (by simp [h]), Int.emod_eq_of_lt (by omega) (by omega)]
theorem sub_eq (nl : Bool) {A B : Nat} (hAB : A ≤ B) (hv : vld l c = true) (hB : B ≤ l.length / 3 * 65536) (h200 : l.length ≤ 200) :
    ∃ (b : Bool) (q : List (Int × Int)), F40 2000 nl (l.map encP) c (A : Int) (B : Int) = some (b, q.map encP, false, 0) ∧ 0 < q.length ∧ q.length ≤ 1000 ∧ q.getD (q.length - 1) (0, 0) = pnt l (plc' l c B) ∧
      (q.getD 0 (0, 0) = pnt l (plc' l c A) ∨ (0 < A % 65536 ∧ A / 65536 = B / 65536 ∧ A < B)) := by
  obtain ⟨hp, hn, hc, ho⟩ := vld_pos hv
  have hN0 : c = true → 0 < l.length / 3 := fun h => by have := hc h; omega
  have f29 := F29_eq (l := l) (c := c) (k := 1994) nl (by omega) (by omega)
  rw [hv, show 1994 + 5 = 1999 from rfl] at f29
  have f61 := F61_eq (l := l) (c := c) (k := 1998) nl (by omega)
  have f77 := F77_eq (l := l) (c := c) (k := 1997) nl (A : Int) hv
  have f77b := F77_eq (l := l) (c := c) (k := 1997) nl (B : Int) hv
  rw [show 1998 + 1 = 1999 from rfl] at f61
  rw [show 1997 + 2 = 1999 from rfl, plI_of hv (by omega)] at f77
  rw [show 1997 + 2 = 1999 from rfl, plI_of hv hB] at f77b
  have c1 : decide (mn2 (A : Int) (B : Int) < -1099511627776) = false := decide_eq_false (by unfold mn2; split <;> omega)
  have c2 : decide (1099511627776 < mx2 (A : Int) (B : Int)) = false := decide_eq_false (by unfold mx2; split <;> omega)
  have c3 : decide ((B : Int) < (A : Int)) = false := decide_eq_false (by omega)
  have hlo : plc' l c A ≤ l.length / 3 * 65536 ∧ (c = true → plc' l c A < l.length / 3 * 65536) := by
    unfold plc'; split
    · rename_i h; have := hN0 h.1; omega
    · rename_i h; exact ⟨by omega, fun hc' => by have : A ≠ _ := fun h2 => h ⟨hc', h2⟩; omega⟩
  have hid : plc' l c (plc' l c A) = plc' l c A := by
    by_cases h : c = true ∧ A = l.length / 3 * 65536
    · have e : plc' l c A = 0 := by unfold plc'; rw [if_pos h]
      rw [e]; unfold plc'; split <;> rfl
    · have e : plc' l c A = A := by unfold plc'; rw [if_neg h]
      rw [e, e]
  have f30 := F30_v (l := l) (c := c) nl ((plc' l c A : Nat) : Int) (by omega) hv (p := plc' l c A) (by
    rw [plI_of hv hlo.1, hid]) hlo.1 hlo.2 1358
  rw [show 1358 + 641 = 1999 from rfl] at f30
  have dlo : w64 (((plc' l c A : Nat) : Int).tdiv 65536) = ((plc' l c A / 65536 : Nat) : Int) := by
    rw [Int.tdiv_eq_ediv_of_nonneg (by omega), w64_id (by omega) (by omega)]; omega
  by_cases hEq : A = B
  · -- one point
    subst hEq
    have z1 : decide (((plc' l c A : Nat) : Int) < ((plc' l c A : Nat) : Int)) = false := decide_eq_false (by omega)
    have z2 : w64 (w64 (((plc' l c A : Nat) : Int) + (A : Int)) - (A : Int)) = ((plc' l c A : Nat) : Int) := by
      rw [w64_id (x := ((plc' l c A : Nat) : Int) + (A : Int)) (by omega) (by omega), w64_id (by omega) (by omega)]; omega
    refine ⟨false, [pnt l (plc' l c A)], ?_, by simp, by simp, rfl, Or.inl rfl⟩
    rw [F40]
    cases c with
    | true => simp only [f29, Option.bind_some, cleanP, asrt_true, cond_true, cond_false, c1, c2, c3, f61, f77, z2, z1, beq_self_eq_true, f30]; rfl
    | false => simp only [f29, Option.bind_some, cleanP, asrt_true, cond_true, cond_false, c1, c2, c3, f61, f77, z1, beq_self_eq_true, f30]; rfl
  · have hA2 : plc' l c A = A := by unfold plc'; rw [if_neg (by omega)]
    have hN : 0 < l.length / 3 := by omega
    rw [hA2] at f77 dlo ⊢
    have z1 : decide ((A : Int) < (B : Int)) = true := decide_eq_true (by omega)
    have z2 : w64 (w64 ((A : Int) + (B : Int)) - (A : Int)) = (B : Int) := by
      rw [w64_id (x := (A : Int) + (B : Int)) (by omega) (by omega), w64_id (by omega) (by omega)]; omega
    have z3 : ((A : Int) == (B : Int)) = false := by rw [beq_eq_false_iff_ne]; omega
    have z4 : decide ((200 : Int) < w64 (w64 ((w64 (w64 ((B : Int) + 65536) - 1)).tdiv 65536) - ((A / 65536 : Nat) : Int))) = false := by
      refine decide_eq_false ?_
      rw [w64_id (x := (B : Int) + 65536) (by omega) (by omega), w64_id (x := (B : Int) + 65536 - 1) (by omega) (by omega), Int.tdiv_eq_ediv_of_nonneg (by omega), w64_id (x := ((B : Int) + 65536 - 1) / 65536) (by omega) (by omega), w64_id (by omega) (by omega)]
      omega
    have hlast : ∀ lo, p3 (cut l lo B ((B + 65535) / 65536 - 1)) = pnt l (plc' l c B) := fun lo => last_eq (by omega) hB (by
      unfold plc'
      by_cases h : c = true ∧ B = l.length / 3 * 65536
      · rw [if_pos h]; exact Or.inr ⟨rfl, h.2, (hc h.1).1⟩
      · rw [if_neg h]
        refine Or.inl ⟨rfl, ?_⟩
        cases c with
        | true => have : B ≠ _ := fun h2 => h ⟨rfl, h2⟩; omega
        | false => have := ho rfl; omega)
    have hfirst := first_eq (l := l) (lo := A) (hi := B) (by omega) hB
    cases c with
    | true =>
      obtain ⟨b', q, g1, g2, _, g3⟩ := F40_L1_eq (l := l) (c := true) (k := 1993) nl (N := l.length / 3) (lo := A) (hi := B) rfl hp hN (by omega) hB (by omega) (A := (A : Int)) (B := (B : Int)) z2 ((B + 65535) / 65536 - A / 65536) (A / 65536) 1999 true [] (by omega) (by omega) (by simp)
      obtain ⟨h1, h2, h3⟩ := g3 (by omega)
      rw [show 1993 + 6 = 1999 from rfl, List.map_nil] at g1
      refine ⟨b', q, ?_, h1, g2, by rw [h2, hlast], ?_⟩
      · rw [F40]
        simp only [f29, Option.bind_some, cleanP, asrt_true, cond_true, cond_false, c1, c2, c3, f61, f77, z2, z1, z3, dlo, z4, g1]
      · rw [h3, if_pos (by simp)]
        rcases hfirst with h | h
        · exact Or.inl h
        · exact Or.inr ⟨h.1, h.2, by omega⟩
    | false =>
      have hB2 : plc' l false B = B := by unfold plc'; rw [if_neg (by simp)]
      rw [hB2] at f77b
      obtain ⟨b', q, g1, g2, _, g3⟩ := F40_L2_eq (l := l) (c := false) (k := 1993) nl (N := l.length / 3) (lo := A) (hi := B) rfl hp hN (by omega) hB (by omega) ((B + 65535) / 65536 - A / 65536) (A / 65536) 1999 true [] (by omega) (by omega) (by simp)
      obtain ⟨h1, h2, h3⟩ := g3 (by omega)
      rw [show 1993 + 6 = 1999 from rfl, List.map_nil] at g1
      refine ⟨b', q, ?_, h1, g2, by rw [h2, hlast], ?_⟩
      · rw [F40]
        simp only [f29, Option.bind_some, cleanP, asrt_true, cond_true, cond_false, c1, c2, c3, f61, f77, f77b, z1, z3, dlo, z4, g1]
      · rw [h3, if_pos (by simp)]
        rcases hfirst with h | h
        · exact Or.inl h
        · exact Or.inr ⟨h.1, h.2, by omega⟩

theorem ends_one (nl : Bool) {A B : Nat} (hAB : A ≤ B) (hv : vld l c = true) (hB : B ≤ l.length / 3 * 65536) (h200 : l.length ≤ 200) :
    ∃ (b : Bool) (q : List (Int × Int)), F40 2000 nl (l.map encP) c (A : Int) (B : Int) = some (b, q.map encP, false, 0) ∧ F30 2000 nl (l.map encP) c (A : Int) = some ((pnt l (plc' l c A)).1, (pnt l (plc' l c A)).2, 0) ∧
      F30 2000 nl (l.map encP) c (B : Int) = some ((pnt l (plc' l c B)).1, (pnt l (plc' l c B)).2, 0) ∧ 0 < q.length ∧ q.length ≤ 1000 ∧ q.getD (q.length - 1) (0, 0) = pnt l (plc' l c B) ∧
      (q.getD 0 (0, 0) = pnt l (plc' l c A) ∨ (0 < A % 65536 ∧ A / 65536 = B / 65536 ∧ A < B)) := by
  obtain ⟨hp, hn, hc, ho⟩ := vld_pos hv
  obtain ⟨b, q, h1, h2, h3, h4, h5⟩ := sub_eq nl hAB hv hB h200
  have key : ∀ a, a ≤ l.length / 3 * 65536 → F30 2000 nl (l.map encP) c (a : Int) = some ((pnt l (plc' l c a)).1, (pnt l (plc' l c a)).2, 0) := fun a ha => by
    have hlo : plc' l c a ≤ l.length / 3 * 65536 ∧ (c = true → plc' l c a < l.length / 3 * 65536) := by
      unfold plc'; split
      · rename_i h; have := hc h.1; omega
      · rename_i h; exact ⟨by omega, fun hc' => by have : a ≠ _ := fun h2 => h ⟨hc', h2⟩; omega⟩
    have := F30_v (l := l) (c := c) nl (a : Int) (by omega) hv (p := plc' l c a) (plI_of hv ha) hlo.1 hlo.2 1359
    rw [show 1359 + 641 = 2000 from rfl] at this
    exact this
  exact ⟨b, q, h1, key A (by omega), key B hB, h2, h3, h4, h5⟩
end
/-- The law, plainly. -/
theorem pathsEnds_plain (nl : Bool) (l : List (Int × Int)) (c : Bool) (s t : Int) (hs : 0 ≤ s ∧ s ≤ 4294967295) (ht : 0 ≤ t ∧ t ≤ 4294967295) : F8 2001 nl (l.map encP) c s t = some true := by
  have hA : F13 2000 = some true := awake_ok
  rw [show (2001 : Nat) = 2000 + 1 from rfl, F8]
  by_cases hl : l.length ≤ 200
  · have d1 : decide ((200 : Int) < (l.length : Int)) = false := decide_eq_false (by omega)
    have h21 := F21_eq (l := l) (c := c) (k := 1998) nl (by omega) (by omega)
    rw [show 1998 + 2 = 2000 from rfl] at h21
    cases hv : vld l c with
    | false =>
      rw [hv] at h21
      simp only [List.length_map, d1, cond_false, h21, Option.bind_some, cleanP, asrt_true, hA]
    | true =>
      rw [hv] at h21
      have f61 := F61_eq (l := l) (c := c) (k := 1999) nl (by omega)
      rw [show 1999 + 1 = 2000 from rfl] at f61
      have hm : w64 (w64 (((l.length / 3 : Nat) : Int) * 65536) + 1) = ((l.length / 3 * 65536 + 1 : Nat) : Int) := by
        rw [w64_id (x := ((l.length / 3 : Nat) : Int) * 65536) (by omega) (by omega), w64_id (by omega) (by omega)]; omega
      have d0 : decide (w64 (w64 (((l.length / 3 : Nat) : Int) * 65536) + 1) = 0) = false := by rw [hm]; exact decide_eq_false (by omega)
      have tmA : ∀ x : Int, 0 ≤ x → x ≤ 4294967295 → ∃ X : Nat, X ≤ l.length / 3 * 65536 ∧ (w64 x).tmod (w64 (w64 (((l.length / 3 : Nat) : Int) * 65536) + 1)) = (X : Int) := fun x h0 h1 => by
        refine ⟨x.toNat % (l.length / 3 * 65536 + 1), by have := Nat.mod_lt x.toNat (show 0 < l.length / 3 * 65536 + 1 by omega); omega, ?_⟩
        rw [hm, w64_id (by omega) (by omega), show x = ((x.toNat : Nat) : Int) by omega, tmn]
        rfl
      obtain ⟨S, hS1, hS⟩ := tmA s hs.1 hs.2
      obtain ⟨T, hT1, hT⟩ := tmA t ht.1 ht.2
      have dv : ∀ X : Nat, X ≤ l.length / 3 * 65536 → w64 ((X : Int).tdiv 65536) = ((X / 65536 : Nat) : Int) := fun X hX => by
        rw [Int.tdiv_eq_ediv_of_nonneg (by omega), w64_id (by omega) (by omega)]; omega
      have tm : ∀ X : Nat, (X : Int).tmod 65536 = ((X % 65536 : Nat) : Int) := fun X => by rw [Int.tmod_eq_emod_of_nonneg (by omega)]; omega
      by_cases hTS : T < S
      · have dTS : decide ((w64 t).tmod (w64 (w64 (((l.length / 3 : Nat) : Int) * 65536) + 1)) < (w64 s).tmod (w64 (w64 (((l.length / 3 : Nat) : Int) * 65536) + 1))) = true := by rw [hT, hS]; exact decide_eq_true (by omega)
        obtain ⟨b, q, g1, g2, g3, g4, g5, g6, g7⟩ := ends_one (l := l) (c := c) nl (A := T) (B := S) (by omega) hv hS1 hl
        have dF : ∀ v, decide (0 < T % 65536) = v → decide ((0 : Int) < ((w64 t).tmod (w64 (w64 (((l.length / 3 : Nat) : Int) * 65536) + 1))).tmod 65536) = v := fun v h => by
          rw [hT, tm, ← h]; congr 1; rw [eq_iff_iff]; omega
        have wl : w64 ((q.length : Int) - 1) = ((q.length - 1 : Nat) : Int) := by rw [w64_id (by omega) (by omega)]; omega
        have q0 : ((q.length : Int) == 0) = false := by rw [beq_eq_false_iff_ne]; omega
        have il : q.length - 1 < q.length := by omega
        have i0 : decide (0 ≤ (0 : Int) ∧ (0 : Int) < (q.length : Int)) = true := decide_eq_true ⟨by omega, by omega⟩
        by_cases hE : T / 65536 = S / 65536
        · have dE : (((T / 65536 : Nat) : Int) == ((S / 65536 : Nat) : Int)) = true := by rw [beq_iff_eq]; omega
          by_cases hF : 0 < T % 65536
          · have dF' := dF _ (decide_eq_true hF)
            simp only [List.length_map, d1, cond_false, cond_true, h21, Option.bind_some, cleanP, asrt_true, f61, d0, dTS, dF']
            simp only [hS, hT, g1, g2, g3, Option.bind_some, cleanP, asrt_true, bne_self_eq_false, cond_false, cond_true, List.length_map, q0, dv S hS1, dv T hT1, tm, wl, inb il, i0, okP, Int.toNat_natCast, decide_eq_true il, decide_eq_true g4, eI0, eI1, g6, beq_self_eq_true, Bool.and_self, Bool.and_true, hA, dE]
          · have dF' := dF _ (decide_eq_false hF)
            have g8 : q.getD 0 (0, 0) = pnt l (plc' l c T) := by rcases g7 with h | h <;> first | exact h | omega
            simp only [List.length_map, d1, cond_false, cond_true, h21, Option.bind_some, cleanP, asrt_true, f61, d0, dTS, dF']
            simp only [hS, hT, g1, g2, g3, Option.bind_some, cleanP, asrt_true, bne_self_eq_false, cond_false, cond_true, List.length_map, q0, dv S hS1, dv T hT1, tm, wl, inb il, i0, okP, Int.toNat_natCast, decide_eq_true il, decide_eq_true g4, eI0, eI1, g6, beq_self_eq_true, Bool.and_self, Bool.and_true, hA, dE, g8]
        · have dE : (((T / 65536 : Nat) : Int) == ((S / 65536 : Nat) : Int)) = false := by rw [beq_eq_false_iff_ne]; omega
          have g8 : q.getD 0 (0, 0) = pnt l (plc' l c T) := by rcases g7 with h | h <;> first | exact h | omega
          simp only [List.length_map, d1, cond_false, cond_true, h21, Option.bind_some, cleanP, asrt_true, f61, d0, dTS]
          simp only [hS, hT, g1, g2, g3, Option.bind_some, cleanP, asrt_true, bne_self_eq_false, cond_false, cond_true, List.length_map, q0, dv S hS1, dv T hT1, tm, wl, inb il, i0, okP, Int.toNat_natCast, decide_eq_true il, decide_eq_true g4, eI0, eI1, g6, beq_self_eq_true, Bool.and_self, Bool.and_true, hA, dE, g8]
      · have dTS : decide ((w64 t).tmod (w64 (w64 (((l.length / 3 : Nat) : Int) * 65536) + 1)) < (w64 s).tmod (w64 (w64 (((l.length / 3 : Nat) : Int) * 65536) + 1))) = false := by rw [hT, hS]; exact decide_eq_false (by omega)
        obtain ⟨b, q, g1, g2, g3, g4, g5, g6, g7⟩ := ends_one (l := l) (c := c) nl (A := S) (B := T) (by omega) hv hT1 hl
        have dF : ∀ v, decide (0 < S % 65536) = v → decide ((0 : Int) < ((w64 s).tmod (w64 (w64 (((l.length / 3 : Nat) : Int) * 65536) + 1))).tmod 65536) = v := fun v h => by
          rw [hS, tm, ← h]; congr 1; rw [eq_iff_iff]; omega
        have dST : ∀ v, decide (S < T) = v → decide ((w64 s).tmod (w64 (w64 (((l.length / 3 : Nat) : Int) * 65536) + 1)) < (w64 t).tmod (w64 (w64 (((l.length / 3 : Nat) : Int) * 65536) + 1))) = v := fun v h => by
          rw [hS, hT, ← h]; congr 1; rw [eq_iff_iff]; omega
        have wl : w64 ((q.length : Int) - 1) = ((q.length - 1 : Nat) : Int) := by rw [w64_id (by omega) (by omega)]; omega
        have q0 : ((q.length : Int) == 0) = false := by rw [beq_eq_false_iff_ne]; omega
        have il : q.length - 1 < q.length := by omega
        have i0 : decide (0 ≤ (0 : Int) ∧ (0 : Int) < (q.length : Int)) = true := decide_eq_true ⟨by omega, by omega⟩
        by_cases hE : S / 65536 = T / 65536
        · have dE : (((S / 65536 : Nat) : Int) == ((T / 65536 : Nat) : Int)) = true := by rw [beq_iff_eq]; omega
          by_cases hF : 0 < S % 65536
          · have dF' := dF _ (decide_eq_true hF)
            by_cases hG : S < T
            · have dG' := dST _ (decide_eq_true hG)
              simp only [List.length_map, d1, cond_false, cond_true, h21, Option.bind_some, cleanP, asrt_true, f61, d0, dTS, dF', dG']
              simp only [hS, hT, g1, g2, g3, Option.bind_some, cleanP, asrt_true, bne_self_eq_false, cond_false, cond_true, List.length_map, q0, dv S hS1, dv T hT1, tm, wl, inb il, i0, okP, Int.toNat_natCast, decide_eq_true il, decide_eq_true g4, eI0, eI1, g6, beq_self_eq_true, Bool.and_self, Bool.and_true, hA, dE]
            · have dG' := dST _ (decide_eq_false hG)
              have g8 : q.getD 0 (0, 0) = pnt l (plc' l c S) := by rcases g7 with h | h <;> first | exact h | omega
              simp only [List.length_map, d1, cond_false, cond_true, h21, Option.bind_some, cleanP, asrt_true, f61, d0, dTS, dF', dG']
              simp only [hS, hT, g1, g2, g3, Option.bind_some, cleanP, asrt_true, bne_self_eq_false, cond_false, cond_true, List.length_map, q0, dv S hS1, dv T hT1, tm, wl, inb il, i0, okP, Int.toNat_natCast, decide_eq_true il, decide_eq_true g4, eI0, eI1, g6, beq_self_eq_true, Bool.and_self, Bool.and_true, hA, dE, g8]
          · have dF' := dF _ (decide_eq_false hF)
            have g8 : q.getD 0 (0, 0) = pnt l (plc' l c S) := by rcases g7 with h | h <;> first | exact h | omega
            simp only [List.length_map, d1, cond_false, cond_true, h21, Option.bind_some, cleanP, asrt_true, f61, d0, dTS, dF']
            simp only [hS, hT, g1, g2, g3, Option.bind_some, cleanP, asrt_true, bne_self_eq_false, cond_false, cond_true, List.length_map, q0, dv S hS1, dv T hT1, tm, wl, inb il, i0, okP, Int.toNat_natCast, decide_eq_true il, decide_eq_true g4, eI0, eI1, g6, beq_self_eq_true, Bool.and_self, Bool.and_true, hA, dE, g8]
        · have dE : (((S / 65536 : Nat) : Int) == ((T / 65536 : Nat) : Int)) = false := by rw [beq_eq_false_iff_ne]; omega
          have g8 : q.getD 0 (0, 0) = pnt l (plc' l c S) := by rcases g7 with h | h <;> first | exact h | omega
          simp only [List.length_map, d1, cond_false, cond_true, h21, Option.bind_some, cleanP, asrt_true, f61, d0, dTS]
          simp only [hS, hT, g1, g2, g3, Option.bind_some, cleanP, asrt_true, bne_self_eq_false, cond_false, cond_true, List.length_map, q0, dv S hS1, dv T hT1, tm, wl, inb il, i0, okP, Int.toNat_natCast, decide_eq_true il, decide_eq_true g4, eI0, eI1, g6, beq_self_eq_true, Bool.and_self, Bool.and_true, hA, dE, g8]
  · have d1 : decide ((200 : Int) < (l.length : Int)) = true := decide_eq_true (by omega)
    simp only [List.length_map, d1, cond_true, hA, Option.bind_some]
end Go.Proofs.YtjfpcgkgdajcfaaGreatDoor
