/-
  paths.Sub, plainly: where a part of a path begins and ends; no condition but the sizes named.
-/
import Derived.Test.YtjfpcgkgdajcfaaGreatDoorPurePU
import Derived.Test.YtjfpcgkgdajcfaaGreatDoorU2
open Go Go.Ev
namespace Go.Proofs.YtjfpcgkgdajcfaaGreatDoor
set_option linter.unusedSimpArgs false
set_option linter.unusedVariables false
section
variable {l : List (Int × Int)} {c : Bool} {k : Nat}
/-- Division with rounding. -/
def rdv (x d : Int) : Int := bif decide ((w64 (w64 (2 * x) + d)).tmod (w64 (2 * d)) < 0) then w64 (w64 ((w64 (w64 (2 * x) + d)).tdiv (w64 (2 * d))) - 1) else w64 ((w64 (w64 (2 * x) + d)).tdiv (w64 (2 * d)))
theorem F56_v (x d : Int) (h : w64 (2 * d) ≠ 0) : F56 (k + 2) x d = some (rdv x d) := by
  unfold F56 F88 rdv
  simp only [decide_eq_false h, cond_false]
  cases decide ((w64 (w64 (2 * x) + d)).tmod (w64 (2 * d)) < 0) <;> rfl
theorem u2 : w64 (2 * 65536) ≠ 0 := by decide
def lp (a b d e x : Int) : Int × Int := (w64 (a + rdv (w64 (w64 (d - a) * x)) 65536), w64 (b + rdv (w64 (w64 (e - b) * x)) 65536))
theorem F98_v (a b d e x : Int) : F98 (k + 3) a b d e x = some (lp a b d e x) := by
  rw [F98, F56_v _ _ u2, Option.bind_some, F56_v _ _ u2, Option.bind_some]; rfl
def sp8 (a1 a2 a3 a4 a5 a6 a7 a8 x : Int) : Int × Int × Int × Int × Int × Int × Int × Int × Int × Int × Int × Int × Int × Int × Int × Int :=
  let v1 := lp a1 a2 a3 a4 x; let v2 := lp a3 a4 a5 a6 x; let v3 := lp a5 a6 a7 a8 x
  let v4 := lp v1.1 v1.2 v2.1 v2.2 x; let v5 := lp v2.1 v2.2 v3.1 v3.2 x; let v6 := lp v4.1 v4.2 v5.1 v5.2 x
  (a1, a2, v1.1, v1.2, v4.1, v4.2, v6.1, v6.2, v6.1, v6.2, v5.1, v5.2, v3.1, v3.2, a7, a8)
theorem F78_v (a1 a2 a3 a4 a5 a6 a7 a8 x : Int) : F78 (k + 4) a1 a2 a3 a4 a5 a6 a7 a8 x = some (sp8 a1 a2 a3 a4 a5 a6 a7 a8 x) := by
  rw [F78, F98_v, Option.bind_some, F98_v, Option.bind_some, F98_v, Option.bind_some, F98_v, Option.bind_some, F98_v, Option.bind_some, F98_v, Option.bind_some]; rfl
/-- A split of four points. -/
def spt (s : Int × Int × Int × Int × Int × Int × Int × Int) (x : Int) := sp8 s.1 s.2.1 s.2.2.1 s.2.2.2.1 s.2.2.2.2.1 s.2.2.2.2.2.1 s.2.2.2.2.2.2.1 s.2.2.2.2.2.2.2 x
/-- The point at a place. -/
def pnt (l : List (Int × Int)) (p : Nat) : Int × Int := if 0 < p % 65536 then ((spt (sg l (p / 65536)) ((p % 65536 : Nat) : Int)).2.2.2.2.2.2.1, (spt (sg l (p / 65536)) ((p % 65536 : Nat) : Int)).2.2.2.2.2.2.2.1) else l.getD (3 * (p / 65536)) (0, 0)
theorem at_eq (nl : Bool) (a : Int) (hl : l.length ≤ 605) (hv : vld l c = true) {p : Nat} (hpl : plI l c a = (p : Int)) (hp1 : p ≤ l.length / 3 * 65536) (hp2 : c = true → p < l.length / 3 * 65536) :
    ∃ t, (∀ j, F74 (j + 640) nl (l.map encP) c a = some t) ∧ t.2.2.1 = (pnt l p).1 ∧ t.2.2.2.1 = (pnt l p).2 ∧ t.2.2.2.2.2.2 = 0 := by
  obtain ⟨hp, hn, hc, ho⟩ := vld_pos hv
  have hq : p / 65536 ≤ l.length / 3 := by omega
  have e1 : w64 ((p : Int).tdiv 65536) = ((p / 65536 : Nat) : Int) := by
    rw [Int.tdiv_eq_ediv_of_nonneg (by omega), w64_id (by omega) (by omega)]; omega
  have e2 : (p : Int).tmod 65536 = ((p % 65536 : Nat) : Int) := by
    rw [Int.tmod_eq_emod_of_nonneg (by omega)]; omega
  generalize hqq : p / 65536 = q at *
  generalize hff : p % 65536 = f at *
  have hq1 : q ≤ 1000 := by omega
  by_cases hf : 0 < f
  · have h78 := fun k => F78_v (k := k) (sg l q).1 (sg l q).2.1 (sg l q).2.2.1 (sg l q).2.2.2.1 (sg l q).2.2.2.2.1 (sg l q).2.2.2.2.2.1 (sg l q).2.2.2.2.2.2.1 (sg l q).2.2.2.2.2.2.2 (f : Int)
    generalize hvv : sp8 (sg l q).1 (sg l q).2.1 (sg l q).2.2.1 (sg l q).2.2.2.1 (sg l q).2.2.2.2.1 (sg l q).2.2.2.2.2.1 (sg l q).2.2.2.2.2.2.1 (sg l q).2.2.2.2.2.2.2 (f : Int) = v at h78
    have hf' : decide ((0 : Int) < (f : Int)) = true := decide_eq_true (by omega)
    refine ⟨(v.2.2.2.2.1, v.2.2.2.2.2.1, v.2.2.2.2.2.2.1, v.2.2.2.2.2.2.2.1, v.2.2.2.2.2.2.2.2.2.2.1, v.2.2.2.2.2.2.2.2.2.2.2.1, 0), fun j => ?_, ?_, ?_, rfl⟩
    · rw [F74]
      simp only [F29_eq (k := j + 634) nl hl (by omega), hv, F77_eq (k := j + 637) nl a hv, F62_eq (k := j + 633) nl q hq1 hp, h78 (j + 635), hpl, e1, e2, hf', Option.bind_some, cleanP, asrt_true, cond_true]
    · unfold pnt; rw [hff, hqq, if_pos hf, ← hvv]; rfl
    · unfold pnt; rw [hff, hqq, if_pos hf, ← hvv]; rfl
  · have hf' : decide ((0 : Int) < (f : Int)) = false := decide_eq_false (by omega)
    have hf0 : f = 0 := by omega
    have hpq : p = q * 65536 := by omega
    have h3q : 3 * q < l.length := by
      cases c with
      | true => have := hp2 rfl; have := hc rfl; omega
      | false => have := ho rfl; omega
    have m0 : 3 * q % l.length = 3 * q := Nat.mod_eq_of_lt h3q
    have wb : w64 (((3 * q : Nat) : Int) + (l.length : Int)) = ((3 * q + l.length : Nat) : Int) := wa _ (by omega) (by omega)
    have wc : w64 (((3 * q + l.length : Nat) : Int) - 1) = ((3 * q + l.length - 1 : Nat) : Int) := by rw [w64_id (by omega) (by omega)]; omega
    have h1 := wa (x := 3 * q) 1 (by omega) (by omega)
    rw [show ((1 : Nat) : Int) = 1 from rfl] at h1
    have mp : (3 * q + l.length - 1) % l.length < l.length := Nat.mod_lt _ hp
    cases c with
    | true =>
      have hqn : 3 * q + 1 < l.length := by have := hp2 rfl; have := hc rfl; omega
      have m1 : (3 * q + 1) % l.length = 3 * q + 1 := Nat.mod_eq_of_lt hqn
      refine ⟨((l.getD ((3 * q + l.length - 1) % l.length) (0, 0)).1, (l.getD ((3 * q + l.length - 1) % l.length) (0, 0)).2, (l.getD (3 * q) (0, 0)).1, (l.getD (3 * q) (0, 0)).2, (l.getD (3 * q + 1) (0, 0)).1, (l.getD (3 * q + 1) (0, 0)).2, 0), fun j => ?_, ?_, ?_, rfl⟩
      · rw [F74]
        simp only [F29_eq (k := j + 634) nl hl (by omega), hv, F77_eq (k := j + 637) nl a hv, hpl, e1, e2, hf', Option.bind_some, cleanP, asrt_true, cond_true, cond_false, w3 hq1, List.length_map, inb h3q, okP, Int.toNat_natCast, decide_eq_true h3q, n0 hp, wb, wc, tmn, inb mp, decide_eq_true mp, h1, inb hqn, decide_eq_true hqn, eI0, eI1]
      · unfold pnt; rw [hff, hqq, if_neg hf]
      · unfold pnt; rw [hff, hqq, if_neg hf]
    | false =>
      have hn1 := ho rfl
      by_cases hq0 : 0 < q
      · have hq' : decide ((0 : Int) < (q : Int)) = true := decide_eq_true (by omega)
        have mq : (3 * q + l.length - 1) % l.length = 3 * q - 1 := by
          rw [show 3 * q + l.length - 1 = 3 * q - 1 + l.length by omega, Nat.add_mod_right, Nat.mod_eq_of_lt (by omega)]
        have wd : w64 (((3 * q : Nat) : Int) - 1) = ((3 * q - 1 : Nat) : Int) := by rw [w64_id (by omega) (by omega)]; omega
        have h3p : 3 * q - 1 < l.length := by omega
        by_cases hqN : q < l.length / 3
        · have hqN' : decide ((q : Int) < ((l.length / 3 : Nat) : Int)) = true := decide_eq_true (by omega)
          have hqn : 3 * q + 1 < l.length := by omega
          have m1 : (3 * q + 1) % l.length = 3 * q + 1 := Nat.mod_eq_of_lt hqn
          refine ⟨((l.getD (3 * q - 1) (0, 0)).1, (l.getD (3 * q - 1) (0, 0)).2, (l.getD (3 * q) (0, 0)).1, (l.getD (3 * q) (0, 0)).2, (l.getD (3 * q + 1) (0, 0)).1, (l.getD (3 * q + 1) (0, 0)).2, 0), fun j => ?_, ?_, ?_, rfl⟩
          · rw [F74]
            simp only [F29_eq (k := j + 634) nl hl (by omega), hv, F77_eq (k := j + 637) nl a hv, hpl, e1, e2, hf', Option.bind_some, cleanP, asrt_true, cond_true, cond_false, w3 hq1, List.length_map, inb h3q, okP, Int.toNat_natCast, decide_eq_true h3q, n0 hp, wb, wc, tmn, mq, inb h3p, decide_eq_true h3p, h1, inb hqn, decide_eq_true hqn, eI0, eI1, hq', F61_eq (k := j + 638) nl hl, hqN']
          · unfold pnt; rw [hff, hqq, if_neg hf]
          · unfold pnt; rw [hff, hqq, if_neg hf]
        · have hqN' : decide ((q : Int) < ((l.length / 3 : Nat) : Int)) = false := decide_eq_false (by omega)
          refine ⟨((l.getD (3 * q - 1) (0, 0)).1, (l.getD (3 * q - 1) (0, 0)).2, (l.getD (3 * q) (0, 0)).1, (l.getD (3 * q) (0, 0)).2, (l.getD (3 * q) (0, 0)).1, (l.getD (3 * q) (0, 0)).2, 0), fun j => ?_, ?_, ?_, rfl⟩
          · rw [F74]
            simp only [F29_eq (k := j + 634) nl hl (by omega), hv, F77_eq (k := j + 637) nl a hv, hpl, e1, e2, hf', Option.bind_some, cleanP, asrt_true, cond_true, cond_false, w3 hq1, List.length_map, inb h3q, okP, Int.toNat_natCast, decide_eq_true h3q, n0 hp, wb, wc, tmn, mq, inb h3p, decide_eq_true h3p, eI0, eI1, hq', F61_eq (k := j + 638) nl hl, hqN']
          · unfold pnt; rw [hff, hqq, if_neg hf]
          · unfold pnt; rw [hff, hqq, if_neg hf]
      · have hq' : decide ((0 : Int) < (q : Int)) = false := decide_eq_false (by omega)
        by_cases hqN : q < l.length / 3
        · have hqN' : decide ((q : Int) < ((l.length / 3 : Nat) : Int)) = true := decide_eq_true (by omega)
          have hqn : 3 * q + 1 < l.length := by omega
          have m1 : (3 * q + 1) % l.length = 3 * q + 1 := Nat.mod_eq_of_lt hqn
          refine ⟨((l.getD (3 * q) (0, 0)).1, (l.getD (3 * q) (0, 0)).2, (l.getD (3 * q) (0, 0)).1, (l.getD (3 * q) (0, 0)).2, (l.getD (3 * q + 1) (0, 0)).1, (l.getD (3 * q + 1) (0, 0)).2, 0), fun j => ?_, ?_, ?_, rfl⟩
          · rw [F74]
            simp only [F29_eq (k := j + 634) nl hl (by omega), hv, F77_eq (k := j + 637) nl a hv, hpl, e1, e2, hf', Option.bind_some, cleanP, asrt_true, cond_true, cond_false, w3 hq1, List.length_map, inb h3q, okP, Int.toNat_natCast, decide_eq_true h3q, h1, inb hqn, decide_eq_true hqn, eI0, eI1, hq', F61_eq (k := j + 638) nl hl, hqN']
          · unfold pnt; rw [hff, hqq, if_neg hf]
          · unfold pnt; rw [hff, hqq, if_neg hf]
        · have hqN' : decide ((q : Int) < ((l.length / 3 : Nat) : Int)) = false := decide_eq_false (by omega)
          refine ⟨((l.getD (3 * q) (0, 0)).1, (l.getD (3 * q) (0, 0)).2, (l.getD (3 * q) (0, 0)).1, (l.getD (3 * q) (0, 0)).2, (l.getD (3 * q) (0, 0)).1, (l.getD (3 * q) (0, 0)).2, 0), fun j => ?_, ?_, ?_, rfl⟩
          · rw [F74]
            simp only [F29_eq (k := j + 634) nl hl (by omega), hv, F77_eq (k := j + 637) nl a hv, hpl, e1, e2, hf', Option.bind_some, cleanP, asrt_true, cond_true, cond_false, w3 hq1, List.length_map, inb h3q, okP, Int.toNat_natCast, decide_eq_true h3q, eI0, eI1, hq', F61_eq (k := j + 638) nl hl, hqN']
          · unfold pnt; rw [hff, hqq, if_neg hf]
          · unfold pnt; rw [hff, hqq, if_neg hf]
theorem F30_v (nl : Bool) (a : Int) (hl : l.length ≤ 605) (hv : vld l c = true) {p : Nat} (hpl : plI l c a = (p : Int)) (hp1 : p ≤ l.length / 3 * 65536) (hp2 : c = true → p < l.length / 3 * 65536) (j : Nat) :
    F30 (j + 641) nl (l.map encP) c a = some ((pnt l p).1, (pnt l p).2, 0) := by
  obtain ⟨t, h, h1, h2, h3⟩ := at_eq nl a hl hv hpl hp1 hp2
  rw [F30]
  simp only [h j, Option.bind_some, cleanP, asrt_true, h1, h2, h3]
theorem gd_left {α : Type} {a b : List α} {n : Nat} {d : α} (h : n < a.length) : (a ++ b).getD n d = a.getD n d := by
  rw [List.getD_eq_getElem?_getD, List.getD_eq_getElem?_getD, List.getElem?_append_left h]
theorem gd_right {α : Type} {a b : List α} {n : Nat} {d : α} (h : a.length ≤ n) : (a ++ b).getD n d = b.getD (n - a.length) d := by
  rw [List.getD_eq_getElem?_getD, List.getD_eq_getElem?_getD, List.getElem?_append_right h]
abbrev S8 := Int × Int × Int × Int × Int × Int × Int × Int
def lft (t : Int × Int × Int × Int × Int × Int × Int × Int × Int × Int × Int × Int × Int × Int × Int × Int) : S8 := (t.1, t.2.1, t.2.2.1, t.2.2.2.1, t.2.2.2.2.1, t.2.2.2.2.2.1, t.2.2.2.2.2.2.1, t.2.2.2.2.2.2.2.1)
def rgt (t : Int × Int × Int × Int × Int × Int × Int × Int × Int × Int × Int × Int × Int × Int × Int × Int) : S8 := t.2.2.2.2.2.2.2.2
def cutS (s : S8) (h w : Nat) : S8 :=
  if h < 65536 then (if 0 < w then rgt (spt (lft (spt s (h : Int))) (rdv (w64 ((w : Int) * 65536)) (h : Int))) else lft (spt s (h : Int)))
  else (if 0 < w then rgt (spt s (rdv (w64 ((w : Int) * 65536)) (h : Int))) else s)
/-- The piece of a segment between two places. -/
def cut (l : List (Int × Int)) (lo hi i : Nat) : S8 := cutS (sg l i) (min (hi - i * 65536) 65536) (lo - i * 65536)
def p0 (s : S8) : Int × Int := (s.1, s.2.1)
def p1 (s : S8) : Int × Int := (s.2.2.1, s.2.2.2.1)
def p2 (s : S8) : Int × Int := (s.2.2.2.2.1, s.2.2.2.2.2.1)
def p3 (s : S8) : Int × Int := (s.2.2.2.2.2.2.1, s.2.2.2.2.2.2.2)
theorem F40_L2_eq (nl : Bool) {N lo hi : Nat} (hN : N = l.length / 3) (hp : 0 < l.length) (hN0 : 0 < N) (hN2 : N ≤ 200) (hhi : hi ≤ N * 65536) (hlo : lo ≤ 20000000) : ∀ (r i m : Nat) (b : Bool) (acc : List (Int × Int)), i + r = (hi + 65535) / 65536 → r < m → acc.length ≤ 3 * i + 1 →
    ∃ (b' : Bool) (q : List (Int × Int)), F40_L2 (k + 6) nl (l.map encP) c (N : Int) (lo : Int) (hi : Int) m (i : Int) b (acc.map encP) = some (b', q.map encP) ∧ q.length ≤ 1000 ∧ (r = 0 → q = acc) ∧
      (0 < r → 0 < q.length ∧ q.getD (q.length - 1) (0, 0) = p3 (cut l lo hi ((hi + 65535) / 65536 - 1)) ∧ q.getD 0 (0, 0) = if acc.length = 0 then p0 (cut l lo hi i) else acc.getD 0 (0, 0)) := by
  have ee : w64 ((w64 (w64 ((hi : Int) + 65536) - 1)).tdiv 65536) = (((hi + 65535) / 65536 : Nat) : Int) := by
    rw [w64_id (x := (hi : Int) + 65536) (by omega) (by omega), w64_id (x := (hi : Int) + 65536 - 1) (by omega) (by omega), Int.tdiv_eq_ediv_of_nonneg (by omega), w64_id (by omega) (by omega)]
    omega
  intro r
  induction r with
  | zero =>
    intro i m b acc hi' hm ha
    cases m with
    | zero => omega
    | succ m =>
      have h1 : decide ((i : Int) < (((hi + 65535) / 65536 : Nat) : Int)) = false := decide_eq_false (by omega)
      rw [F40_L2]
      simp only [ee, h1, cond_false]
      exact ⟨b, acc, rfl, by omega, fun _ => rfl, fun h => by omega⟩
  | succ r ih =>
    intro i m b acc hi' hm ha
    cases m with
    | zero => omega
    | succ m =>
      have hiN : i < N := by omega
      have hih : i * 65536 < hi := by omega
      have h1 : decide ((i : Int) < (((hi + 65535) / 65536 : Nat) : Int)) = true := decide_eq_true (by omega)
      have hn0 : decide ((N : Int) = 0) = false := decide_eq_false (by omega)
      have him : ((i : Int)).tmod (N : Int) = (i : Int) := by rw [tmn, Nat.mod_eq_of_lt hiN]
      obtain ⟨h, hhh⟩ : ∃ h, h = min (hi - i * 65536) 65536 := ⟨_, rfl⟩
      obtain ⟨w, hww⟩ : ∃ w, w = lo - i * 65536 := ⟨_, rfl⟩
      have hh : mn2 (w64 ((hi : Int) - w64 ((i : Int) * 65536))) 65536 = (h : Int) := by
        rw [w64_id (x := (i : Int) * 65536) (by omega) (by omega), w64_id (by omega) (by omega)]; unfold mn2; split <;> omega
      have hw : mx2 (w64 ((lo : Int) - w64 ((i : Int) * 65536))) 0 = (w : Int) := by
        rw [w64_id (x := (i : Int) * 65536) (by omega) (by omega), w64_id (by omega) (by omega)]; unfold mx2; split <;> omega
      have hcut : cut l lo hi i = cutS (sg l i) h w := by unfold cut; rw [hhh, hww]
      have hi1 : w64 ((i : Int) + 1) = ((i + 1 : Nat) : Int) := by rw [w64_id (by omega) (by omega)]; omega
      have h62 := F62_eq (k := k) (l := l) (c := c) nl i (by omega) hp
      have hr1 := room_ok (n := acc.length) (a := 1) (b := 16) (by omega) (by omega) (by omega)
      have hr2 := room_ok (n := acc.length + 1) (a := 3) (b := 16) (by omega) (by omega) (by omega)
      have hr3 := room_ok (n := acc.length) (a := 3) (b := 16) (by omega) (by omega) (by omega)
      obtain ⟨b', q, h2, h3, h4, h5⟩ := ih (i + 1) m false (acc ++ (if acc.length = 0 then [p0 (cut l lo hi i)] else []) ++ [p1 (cut l lo hi i), p2 (cut l lo hi i), p3 (cut l lo hi i)]) (by omega) (by omega) (by
        rw [List.length_append, List.length_append]; split <;> simp <;> omega)
      have hq : 0 < r → _ := h5
      have main : F40_L2 (k + 6) nl (l.map encP) c (N : Int) (lo : Int) (hi : Int) (m + 1) (i : Int) b (acc.map encP) = some (b', q.map encP) := by
        rw [← h2, F40_L2, hcut]
        have hhp : 0 < h ∧ h ≤ 65536 := by omega
        have h2h : w64 (2 * (h : Int)) ≠ 0 := by rw [w64_id (by omega) (by omega)]; omega
        by_cases hA : h < 65536
        · have dA : decide (mn2 (w64 ((hi : Int) - w64 ((i : Int) * 65536))) 65536 < 65536) = true := by rw [hh]; exact decide_eq_true (by omega)
          by_cases hB : 0 < w
          · have dB : decide ((0 : Int) < mx2 (w64 ((lo : Int) - w64 ((i : Int) * 65536))) 0) = true := by rw [hw]; exact decide_eq_true (by omega)
            simp only [ee, h1, cond_true, hn0, cond_false, him, h62, Option.bind_some, cleanP, asrt_true, dA, dB, hi1, List.length_map]
            simp only [hh, hw, F78_v (k := k + 2), F56_v (k := k + 4) _ _ h2h, Option.bind_some, cutS, if_pos hA, if_pos hB]
            by_cases hC : acc.length = 0
            · have dC : ((acc.length : Int) == 0) = true := by rw [hC]; rfl
              simp only [dC, cond_true, hr1, asrt_true, len1, List.length_map, hr2, if_pos hC, List.map_append, List.map_cons, List.map_nil, encP, p0, p1, p2, p3, lft, rgt, spt]
            · have dC : ((acc.length : Int) == 0) = false := by rw [beq_eq_false_iff_ne]; omega
              simp only [dC, cond_false, hr3, asrt_true, List.length_map, if_neg hC, List.map_append, List.map_cons, List.map_nil, List.append_nil, encP, p0, p1, p2, p3, lft, rgt, spt]
          · have dB : decide ((0 : Int) < mx2 (w64 ((lo : Int) - w64 ((i : Int) * 65536))) 0) = false := by rw [hw]; exact decide_eq_false (by omega)
            simp only [ee, h1, cond_true, hn0, cond_false, him, h62, Option.bind_some, cleanP, asrt_true, dA, dB, hi1, List.length_map]
            simp only [hh, hw, F78_v (k := k + 2), Option.bind_some, cutS, if_pos hA, if_neg hB]
            by_cases hC : acc.length = 0
            · have dC : ((acc.length : Int) == 0) = true := by rw [hC]; rfl
              simp only [dC, cond_true, hr1, asrt_true, len1, List.length_map, hr2, if_pos hC, List.map_append, List.map_cons, List.map_nil, encP, p0, p1, p2, p3, lft, rgt, spt]
            · have dC : ((acc.length : Int) == 0) = false := by rw [beq_eq_false_iff_ne]; omega
              simp only [dC, cond_false, hr3, asrt_true, List.length_map, if_neg hC, List.map_append, List.map_cons, List.map_nil, List.append_nil, encP, p0, p1, p2, p3, lft, rgt, spt]
        · have dA : decide (mn2 (w64 ((hi : Int) - w64 ((i : Int) * 65536))) 65536 < 65536) = false := by rw [hh]; exact decide_eq_false (by omega)
          by_cases hB : 0 < w
          · have dB : decide ((0 : Int) < mx2 (w64 ((lo : Int) - w64 ((i : Int) * 65536))) 0) = true := by rw [hw]; exact decide_eq_true (by omega)
            simp only [ee, h1, cond_true, hn0, cond_false, him, h62, Option.bind_some, cleanP, asrt_true, dA, dB, hi1, List.length_map]
            simp only [hh, hw, F78_v (k := k + 2), F56_v (k := k + 4) _ _ h2h, Option.bind_some, cutS, if_neg hA, if_pos hB]
            by_cases hC : acc.length = 0
            · have dC : ((acc.length : Int) == 0) = true := by rw [hC]; rfl
              simp only [dC, cond_true, hr1, asrt_true, len1, List.length_map, hr2, if_pos hC, List.map_append, List.map_cons, List.map_nil, encP, p0, p1, p2, p3, lft, rgt, spt]
            · have dC : ((acc.length : Int) == 0) = false := by rw [beq_eq_false_iff_ne]; omega
              simp only [dC, cond_false, hr3, asrt_true, List.length_map, if_neg hC, List.map_append, List.map_cons, List.map_nil, List.append_nil, encP, p0, p1, p2, p3, lft, rgt, spt]
          · have dB : decide ((0 : Int) < mx2 (w64 ((lo : Int) - w64 ((i : Int) * 65536))) 0) = false := by rw [hw]; exact decide_eq_false (by omega)
            simp only [ee, h1, cond_true, hn0, cond_false, him, h62, Option.bind_some, cleanP, asrt_true, dA, dB, hi1, List.length_map]
            simp only [hh, hw, F78_v (k := k + 2), Option.bind_some, cutS, if_neg hA, if_neg hB]
            by_cases hC : acc.length = 0
            · have dC : ((acc.length : Int) == 0) = true := by rw [hC]; rfl
              simp only [dC, cond_true, hr1, asrt_true, len1, List.length_map, hr2, if_pos hC, List.map_append, List.map_cons, List.map_nil, encP, p0, p1, p2, p3, lft, rgt, spt]
            · have dC : ((acc.length : Int) == 0) = false := by rw [beq_eq_false_iff_ne]; omega
              simp only [dC, cond_false, hr3, asrt_true, List.length_map, if_neg hC, List.map_append, List.map_cons, List.map_nil, List.append_nil, encP, p0, p1, p2, p3, lft, rgt, spt]
      refine ⟨b', q, main, h3, fun h => by omega, fun _ => ?_⟩
      by_cases hr : r = 0
      · have hqe := h4 hr
        have hi2 : (hi + 65535) / 65536 - 1 = i := by omega
        rw [hqe, hi2]
        by_cases hC : acc.length = 0
        · have : acc = [] := List.eq_nil_of_length_eq_zero hC
          subst this
          simp
        · simp only [if_neg hC, List.append_nil, List.length_append, List.length_cons, List.length_nil]
          refine ⟨by omega, ?_, ?_⟩
          · rw [gd_right (by omega), show acc.length + (0 + 1 + 1 + 1) - 1 - acc.length = 2 by omega]; rfl
          · rw [gd_left (by omega)]
      · obtain ⟨g1, g2, g3⟩ := h5 (by omega)
        refine ⟨g1, g2, ?_⟩
        rw [g3, if_neg (by rw [List.length_append]; simp)]
        by_cases hC : acc.length = 0
        · have : acc = [] := List.eq_nil_of_length_eq_zero hC
          subst this
          simp
        · simp only [if_neg hC, List.append_nil]
          rw [gd_left (by omega)]
theorem F40_L1_eq (nl : Bool) {N lo hi : Nat} (hN : N = l.length / 3) (hp : 0 < l.length) (hN0 : 0 < N) (hN2 : N ≤ 200) (hhi : hi ≤ N * 65536) (hlo : lo ≤ 20000000) {A B : Int} (hx : w64 (w64 ((lo : Int) + B) - A) = (hi : Int)) : ∀ (r i m : Nat) (b : Bool) (acc : List (Int × Int)), i + r = (hi + 65535) / 65536 → r < m → acc.length ≤ 3 * i + 1 →
    ∃ (b' : Bool) (q : List (Int × Int)), F40_L1 (k + 6) nl (l.map encP) c A B (N : Int) (lo : Int) m (i : Int) b (acc.map encP) = some (b', q.map encP) ∧ q.length ≤ 1000 ∧ (r = 0 → q = acc) ∧
      (0 < r → 0 < q.length ∧ q.getD (q.length - 1) (0, 0) = p3 (cut l lo hi ((hi + 65535) / 65536 - 1)) ∧ q.getD 0 (0, 0) = if acc.length = 0 then p0 (cut l lo hi i) else acc.getD 0 (0, 0)) := by
  have ee : w64 ((w64 (w64 ((hi : Int) + 65536) - 1)).tdiv 65536) = (((hi + 65535) / 65536 : Nat) : Int) := by
    rw [w64_id (x := (hi : Int) + 65536) (by omega) (by omega), w64_id (x := (hi : Int) + 65536 - 1) (by omega) (by omega), Int.tdiv_eq_ediv_of_nonneg (by omega), w64_id (by omega) (by omega)]
    omega
  intro r
  induction r with
  | zero =>
    intro i m b acc hi' hm ha
    cases m with
    | zero => omega
    | succ m =>
      have h1 : decide ((i : Int) < (((hi + 65535) / 65536 : Nat) : Int)) = false := decide_eq_false (by omega)
      rw [F40_L1]
      simp only [hx, ee, h1, cond_false]
      exact ⟨b, acc, rfl, by omega, fun _ => rfl, fun h => by omega⟩
  | succ r ih =>
    intro i m b acc hi' hm ha
    cases m with
    | zero => omega
    | succ m =>
      have hiN : i < N := by omega
      have hih : i * 65536 < hi := by omega
      have h1 : decide ((i : Int) < (((hi + 65535) / 65536 : Nat) : Int)) = true := decide_eq_true (by omega)
      have hn0 : decide ((N : Int) = 0) = false := decide_eq_false (by omega)
      have him : ((i : Int)).tmod (N : Int) = (i : Int) := by rw [tmn, Nat.mod_eq_of_lt hiN]
      obtain ⟨h, hhh⟩ : ∃ h, h = min (hi - i * 65536) 65536 := ⟨_, rfl⟩
      obtain ⟨w, hww⟩ : ∃ w, w = lo - i * 65536 := ⟨_, rfl⟩
      have hh : mn2 (w64 ((hi : Int) - w64 ((i : Int) * 65536))) 65536 = (h : Int) := by
        rw [w64_id (x := (i : Int) * 65536) (by omega) (by omega), w64_id (by omega) (by omega)]; unfold mn2; split <;> omega
      have hw : mx2 (w64 ((lo : Int) - w64 ((i : Int) * 65536))) 0 = (w : Int) := by
        rw [w64_id (x := (i : Int) * 65536) (by omega) (by omega), w64_id (by omega) (by omega)]; unfold mx2; split <;> omega
      have hcut : cut l lo hi i = cutS (sg l i) h w := by unfold cut; rw [hhh, hww]
      have hi1 : w64 ((i : Int) + 1) = ((i + 1 : Nat) : Int) := by rw [w64_id (by omega) (by omega)]; omega
      have h62 := F62_eq (k := k) (l := l) (c := c) nl i (by omega) hp
      have hr1 := room_ok (n := acc.length) (a := 1) (b := 16) (by omega) (by omega) (by omega)
      have hr2 := room_ok (n := acc.length + 1) (a := 3) (b := 16) (by omega) (by omega) (by omega)
      have hr3 := room_ok (n := acc.length) (a := 3) (b := 16) (by omega) (by omega) (by omega)
      obtain ⟨b', q, h2, h3, h4, h5⟩ := ih (i + 1) m false (acc ++ (if acc.length = 0 then [p0 (cut l lo hi i)] else []) ++ [p1 (cut l lo hi i), p2 (cut l lo hi i), p3 (cut l lo hi i)]) (by omega) (by omega) (by
        rw [List.length_append, List.length_append]; split <;> simp <;> omega)
      have hq : 0 < r → _ := h5
      have main : F40_L1 (k + 6) nl (l.map encP) c A B (N : Int) (lo : Int) (m + 1) (i : Int) b (acc.map encP) = some (b', q.map encP) := by
        rw [← h2, F40_L1, hcut]
        have hhp : 0 < h ∧ h ≤ 65536 := by omega
        have h2h : w64 (2 * (h : Int)) ≠ 0 := by rw [w64_id (by omega) (by omega)]; omega
        by_cases hA : h < 65536
        · have dA : decide (mn2 (w64 ((hi : Int) - w64 ((i : Int) * 65536))) 65536 < 65536) = true := by rw [hh]; exact decide_eq_true (by omega)
          by_cases hB : 0 < w
          · have dB : decide ((0 : Int) < mx2 (w64 ((lo : Int) - w64 ((i : Int) * 65536))) 0) = true := by rw [hw]; exact decide_eq_true (by omega)
            simp only [hx, ee, h1, cond_true, hn0, cond_false, him, h62, Option.bind_some, cleanP, asrt_true, dA, dB, hi1, List.length_map]
            simp only [hh, hw, F78_v (k := k + 2), F56_v (k := k + 4) _ _ h2h, Option.bind_some, cutS, if_pos hA, if_pos hB]
            by_cases hC : acc.length = 0
            · have dC : ((acc.length : Int) == 0) = true := by rw [hC]; rfl
              simp only [dC, cond_true, hr1, asrt_true, len1, List.length_map, hr2, if_pos hC, List.map_append, List.map_cons, List.map_nil, encP, p0, p1, p2, p3, lft, rgt, spt]
            · have dC : ((acc.length : Int) == 0) = false := by rw [beq_eq_false_iff_ne]; omega
              simp only [dC, cond_false, hr3, asrt_true, List.length_map, if_neg hC, List.map_append, List.map_cons, List.map_nil, List.append_nil, encP, p0, p1, p2, p3, lft, rgt, spt]
          · have dB : decide ((0 : Int) < mx2 (w64 ((lo : Int) - w64 ((i : Int) * 65536))) 0) = false := by rw [hw]; exact decide_eq_false (by omega)
            simp only [hx, ee, h1, cond_true, hn0, cond_false, him, h62, Option.bind_some, cleanP, asrt_true, dA, dB, hi1, List.length_map]
            simp only [hh, hw, F78_v (k := k + 2), Option.bind_some, cutS, if_pos hA, if_neg hB]
            by_cases hC : acc.length = 0
            · have dC : ((acc.length : Int) == 0) = true := by rw [hC]; rfl
              simp only [dC, cond_true, hr1, asrt_true, len1, List.length_map, hr2, if_pos hC, List.map_append, List.map_cons, List.map_nil, encP, p0, p1, p2, p3, lft, rgt, spt]
            · have dC : ((acc.length : Int) == 0) = false := by rw [beq_eq_false_iff_ne]; omega
              simp only [dC, cond_false, hr3, asrt_true, List.length_map, if_neg hC, List.map_append, List.map_cons, List.map_nil, List.append_nil, encP, p0, p1, p2, p3, lft, rgt, spt]
        · have dA : decide (mn2 (w64 ((hi : Int) - w64 ((i : Int) * 65536))) 65536 < 65536) = false := by rw [hh]; exact decide_eq_false (by omega)
          by_cases hB : 0 < w
          · have dB : decide ((0 : Int) < mx2 (w64 ((lo : Int) - w64 ((i : Int) * 65536))) 0) = true := by rw [hw]; exact decide_eq_true (by omega)
            simp only [hx, ee, h1, cond_true, hn0, cond_false, him, h62, Option.bind_some, cleanP, asrt_true, dA, dB, hi1, List.length_map]
            simp only [hh, hw, F78_v (k := k + 2), F56_v (k := k + 4) _ _ h2h, Option.bind_some, cutS, if_neg hA, if_pos hB]
            by_cases hC : acc.length = 0
            · have dC : ((acc.length : Int) == 0) = true := by rw [hC]; rfl
              simp only [dC, cond_true, hr1, asrt_true, len1, List.length_map, hr2, if_pos hC, List.map_append, List.map_cons, List.map_nil, encP, p0, p1, p2, p3, lft, rgt, spt]
            · have dC : ((acc.length : Int) == 0) = false := by rw [beq_eq_false_iff_ne]; omega
              simp only [dC, cond_false, hr3, asrt_true, List.length_map, if_neg hC, List.map_append, List.map_cons, List.map_nil, List.append_nil, encP, p0, p1, p2, p3, lft, rgt, spt]
          · have dB : decide ((0 : Int) < mx2 (w64 ((lo : Int) - w64 ((i : Int) * 65536))) 0) = false := by rw [hw]; exact decide_eq_false (by omega)
            simp only [hx, ee, h1, cond_true, hn0, cond_false, him, h62, Option.bind_some, cleanP, asrt_true, dA, dB, hi1, List.length_map]
            simp only [hh, hw, F78_v (k := k + 2), Option.bind_some, cutS, if_neg hA, if_neg hB]
            by_cases hC : acc.length = 0
            · have dC : ((acc.length : Int) == 0) = true := by rw [hC]; rfl
              simp only [dC, cond_true, hr1, asrt_true, len1, List.length_map, hr2, if_pos hC, List.map_append, List.map_cons, List.map_nil, encP, p0, p1, p2, p3, lft, rgt, spt]
            · have dC : ((acc.length : Int) == 0) = false := by rw [beq_eq_false_iff_ne]; omega
              simp only [dC, cond_false, hr3, asrt_true, List.length_map, if_neg hC, List.map_append, List.map_cons, List.map_nil, List.append_nil, encP, p0, p1, p2, p3, lft, rgt, spt]
      refine ⟨b', q, main, h3, fun h => by omega, fun _ => ?_⟩
      by_cases hr : r = 0
      · have hqe := h4 hr
        have hi2 : (hi + 65535) / 65536 - 1 = i := by omega
        rw [hqe, hi2]
        by_cases hC : acc.length = 0
        · have : acc = [] := List.eq_nil_of_length_eq_zero hC
          subst this
          simp
        · simp only [if_neg hC, List.append_nil, List.length_append, List.length_cons, List.length_nil]
          refine ⟨by omega, ?_, ?_⟩
          · rw [gd_right (by omega), show acc.length + (0 + 1 + 1 + 1) - 1 - acc.length = 2 by omega]; rfl
          · rw [gd_left (by omega)]
      · obtain ⟨g1, g2, g3⟩ := h5 (by omega)
        refine ⟨g1, g2, ?_⟩
        rw [g3, if_neg (by rw [List.length_append]; simp)]
        by_cases hC : acc.length = 0
        · have : acc = [] := List.eq_nil_of_length_eq_zero hC
          subst this
          simp
        · simp only [if_neg hC, List.append_nil]
          rw [gd_left (by omega)]
end
end Go.Proofs.YtjfpcgkgdajcfaaGreatDoor
