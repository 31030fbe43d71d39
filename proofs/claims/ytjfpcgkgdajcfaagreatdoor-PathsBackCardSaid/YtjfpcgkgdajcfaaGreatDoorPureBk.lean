/-
  PathsBack, plainly: Reverse twice is the path, its knots are those of the path from the end on, a text read is written back; conditions: a nil row is empty.
-/
import Derived.Test.YtjfpcgkgdajcfaaGreatDoorPureRc
import Derived.Test.YtjfpcgkgdajcfaaGreatDoorB0
import Derived.Test.YtjfpcgkgdajcfaaGreatDoorTx1
open Go Go.Ev Go.Proofs
namespace Go.Proofs.YtjfpcgkgdajcfaaGreatDoor
set_option linter.unusedSimpArgs false
set_option linter.unusedVariables false
/-- A path turned around. -/
def rv (l : List (Int × Int)) (c : Bool) : List (Int × Int) := bif c then crev l else l.reverse
theorem rv_len (l : List (Int × Int)) (c : Bool) : (rv l c).length = l.length := by
  cases c
  · exact List.length_reverse
  · exact crev_len l
theorem crev_crev (l : List (Int × Int)) : crev (crev l) = l := by
  refine eq_of_getD (by rw [crev_len, crev_len]) fun q hq => ?_
  rw [crev_len, crev_len] at hq
  rw [crev_get _ (by rw [crev_len]; exact hq), crev_len]
  have hp : 0 < l.length := by omega
  rw [crev_get l (Nat.mod_lt _ hp)]
  congr 1
  by_cases e : q = 0
  · subst e; rw [Nat.sub_zero, Nat.mod_self, Nat.sub_zero, Nat.mod_self]
  · rw [Nat.mod_eq_of_lt (show l.length - q < l.length by omega), show l.length - (l.length - q) = q by omega, Nat.mod_eq_of_lt hq]
theorem rv_rv (l : List (Int × Int)) (c : Bool) : rv (rv l c) c = l := by
  cases c
  · exact List.reverse_reverse l
  · exact crev_crev l
theorem rv_all {l : List (Int × Int)} {c : Bool} (h : l.all plc = true) : (rv l c).all plc = true := by
  rw [List.all_eq_true] at h ⊢
  intro x hx
  apply h
  cases c with
  | false => exact List.mem_reverse.1 hx
  | true =>
    rcases List.mem_append.1 (show x ∈ crev l from hx) with h | h
    · exact List.mem_reverse.1 (List.mem_of_mem_drop (List.mem_of_mem_take h))
    · exact List.mem_reverse.1 (List.mem_of_mem_take h)
theorem vld_rv {l : List (Int × Int)} {c : Bool} (h : vld l c = true) : vld (rv l c) c = true := by
  unfold vld at h ⊢
  rw [rv_len]
  rw [Bool.and_eq_true] at h ⊢
  exact ⟨h.1, rv_all h.2⟩
theorem F22_rv {k : Nat} {l : List (Int × Int)} {c : Bool} (hv : vld l c = true) (hk : 1100 ≤ k) : F22 (k + 6) false (l.map encP) c = some (false, (rv l c).map encP, c, 0) := by
  have hp := vld_pos hv
  cases c with
  | false => rw [F22_open l (by omega) hk, hv, if_pos rfl]; rfl
  | true => rw [F22_closed l (by omega) hk, hv, if_pos rfl]; rfl
/-- The knots: every third point. -/
def kn (l : List (Int × Int)) : List (Int × Int) := (List.range ((l.length + 2) / 3)).map fun i => l.getD (3 * i) (0, 0)
theorem kn_len (l : List (Int × Int)) : (kn l).length = (l.length + 2) / 3 := by unfold kn; rw [List.length_map, List.length_range]
theorem kn_get {l : List (Int × Int)} {i : Nat} (h : i < (l.length + 2) / 3) : (kn l).getD i (0, 0) = l.getD (3 * i) (0, 0) := by
  unfold kn
  rw [List.getD_eq_getElem?_getD, List.getElem?_map, List.getElem?_range h]; rfl
theorem F23_kn {k : Nat} {l : List (Int × Int)} (hl : l.length ≤ 610) : ∀ (d m i : Nat) (b : Bool), i + d = (l.length + 2) / 3 → d < m →
    ∃ b', F23_L1 k (l.map encP) m b (((List.range i).map fun i => l.getD (3 * i) (0, 0)).map encP) ((3 * i : Nat) : Int) = some (b', (kn l).map encP) := by
  intro d
  induction d with
  | zero =>
    intro m i b hi hm
    obtain ⟨m, rfl⟩ : ∃ j, m = j + 1 := ⟨m - 1, by omega⟩
    obtain rfl : i = (l.length + 2) / 3 := by omega
    have h1 : decide (((3 * ((l.length + 2) / 3) : Nat) : Int) < (l.length : Int)) = false := decide_eq_false (by omega)
    rw [F23_L1, List.length_map, h1, cond_false]
    exact ⟨b, rfl⟩
  | succ d ih =>
    intro m i b hi hm
    obtain ⟨m, rfl⟩ : ∃ j, m = j + 1 := ⟨m - 1, by omega⟩
    have hjl : 3 * i < l.length := by omega
    have h1 : decide (((3 * i : Nat) : Int) < (l.length : Int)) = true := decide_eq_true (by omega)
    have h10 : decide (0 ≤ ((3 * i : Nat) : Int) ∧ ((3 * i : Nat) : Int) < (l.length : Int)) = true := decide_eq_true ⟨by omega, by omega⟩
    have h6 : w64 (((3 * i : Nat) : Int) + 3) = ((3 * (i + 1) : Nat) : Int) := by rw [w64_id (by omega) (by omega)]; omega
    have h9 := room_ok (n := i) (a := 1) (b := 16) (by omega) (by omega) (by omega)
    have e : ((List.range i).map fun i => l.getD (3 * i) (0, 0)).map encP ++ [.agg [.int .i64 (l.getD (3 * i) (0, 0)).1, .int .i64 (l.getD (3 * i) (0, 0)).2]] = ((List.range (i + 1)).map fun i => l.getD (3 * i) (0, 0)).map encP := by
      rw [List.range_succ, List.map_append, List.map_append]; rfl
    rw [F23_L1]
    simp only [List.length_map, List.length_range, h1, cond_true, asrt_true, okP, Int.toNat_natCast, decide_eq_true hjl, h10, eI0, eI1, h6, h9, e]
    exact ih m (i + 1) false (by omega) (by omega)
theorem F23_all {k : Nat} {l : List (Int × Int)} {c : Bool} (hv : vld l c = true) (hk : 700 ≤ k) : ∃ b, F23 (k + 6) false (l.map encP) c = some (b, (kn l).map encP, 0) := by
  have hp := vld_pos hv
  obtain ⟨b, h⟩ := F23_kn (k := k + 5) (l := l) (by omega) ((l.length + 2) / 3) (k + 5) 0 true (by omega) (by omega)
  rw [List.range_zero, List.map_nil, List.map_nil] at h
  refine ⟨b, ?_⟩
  rw [F23, F29_eq (k := k) false (by omega) (by omega), Option.bind_some, cleanP, asrt_true, hv, cond_true]
  show Option.bind (F23_L1 (k + 5) (l.map encP) (k + 5) true [] ((3 * 0 : Nat) : Int)) _ = _
  rw [h, Option.bind_some, cleanP, asrt_true]
theorem bk_loop {k : Nat} {l : List (Int × Int)} {c : Bool} {b1 b2 : Bool} (hv : vld l c = true) : ∀ (d m i : Nat), i + d = (l.length + 2) / 3 → d < m →
    F5_L1 k c (b1, (kn l).map encP, 0) (b2, (kn (rv l c)).map encP, 0) m (i : Int) = some (.inr ()) := by
  obtain ⟨hp, hn, hc, ho⟩ := vld_pos hv
  obtain ⟨N, hN⟩ : ∃ N, N = (l.length + 2) / 3 := ⟨_, rfl⟩
  have k1 : (kn l).length = N := by rw [kn_len, hN]
  have k2 : (kn (rv l c)).length = N := by rw [kn_len, rv_len, hN]
  intro d
  induction d with
  | zero =>
    intro m i hi hm
    obtain ⟨m, rfl⟩ : ∃ j, m = j + 1 := ⟨m - 1, by omega⟩
    have h1 : decide ((i : Int) < (N : Int)) = false := decide_eq_false (by omega)
    rw [F5_L1]
    simp only [List.length_map, k1, h1, cond_false]
  | succ d ih =>
    intro m i hi hm
    obtain ⟨m, rfl⟩ : ∃ j, m = j + 1 := ⟨m - 1, by omega⟩
    have hiN : i < N := by omega
    have h1 : decide ((i : Int) < (N : Int)) = true := decide_eq_true (by omega)
    have h2 : decide (0 ≤ (i : Int) ∧ (i : Int) < (N : Int)) = true := decide_eq_true ⟨by omega, by omega⟩
    have e1 : w64 ((i : Int) + 1) = ((i + 1 : Nat) : Int) := by rw [w64_id (by omega) (by omega)]; omega
    have go := ih m (i + 1) (by omega) (by omega)
    have h4 : decide ((N : Int) = 0) = false := decide_eq_false (by omega)
    have hrl := rv_len l c
    cases c with
    | true =>
      have hc3 := hc rfl
      obtain ⟨j, hj⟩ : ∃ j, j = (N - i) % N := ⟨_, rfl⟩
      have hjN : j < N := by rw [hj]; exact Nat.mod_lt _ (by omega)
      have hx : (w64 ((N : Int) - (i : Int))).tmod (N : Int) = (j : Int) := by
        rw [w64_id (by omega) (by omega), show (N : Int) - (i : Int) = ((N - i : Nat) : Int) by omega, hj]; rfl
      have hg : (kn (rv l true)).getD j (0, 0) = (kn l).getD i (0, 0) := by
        rw [kn_get (by rw [rv_len]; omega), kn_get (by omega), show rv l true = crev l from rfl, crev_get l (by omega)]
        congr 1
        by_cases e : i = 0
        · subst e
          rw [Nat.sub_zero, Nat.mod_self] at hj
          rw [hj, Nat.mul_zero, Nat.sub_zero, Nat.mod_self]
        · rw [Nat.mod_eq_of_lt (show N - i < N by omega)] at hj
          rw [Nat.mod_eq_of_lt (by omega)]; omega
      have h3 : decide (0 ≤ (j : Int) ∧ (j : Int) < (N : Int)) = true := decide_eq_true ⟨by omega, by omega⟩
      rw [F5_L1]
      simp only [List.length_map, k1, k2, h1, h2, h4, hx, h3, cond_true, cond_false, asrt_true, okP, Int.toNat_natCast, decide_eq_true hiN, decide_eq_true hjN, eI0, eI1, hg, beq_self_eq_true, Bool.and_self, e1, go]
    | false =>
      have ho3 := ho rfl
      obtain ⟨j, hj⟩ : ∃ j, j = N - 1 - i := ⟨_, rfl⟩
      have hjN : j < N := by omega
      have hx : w64 (w64 ((N : Int) - 1) - (i : Int)) = (j : Int) := by
        rw [w64_id (x := (N : Int) - 1) (by omega) (by omega), w64_id (by omega) (by omega)]; omega
      have hg : (kn (rv l false)).getD j (0, 0) = (kn l).getD i (0, 0) := by
        rw [kn_get (by rw [rv_len]; omega), kn_get (by omega), show rv l false = l.reverse from rfl, getD_rev l _ (by omega)]
        congr 1; omega
      have h3 : decide (0 ≤ (j : Int) ∧ (j : Int) < (N : Int)) = true := decide_eq_true ⟨by omega, by omega⟩
      rw [F5_L1]
      simp only [List.length_map, k1, k2, h1, h2, h4, hx, h3, cond_true, cond_false, asrt_true, okP, Int.toNat_natCast, decide_eq_true hiN, decide_eq_true hjN, eI0, eI1, hg, beq_self_eq_true, Bool.and_self, e1, go]
theorem L2_eq {k : Nat} {c : Bool} {r s : Bool × List AV × Int} : ∀ (m : Nat) (x : Int), F5_L2 k c r s m x = F5_L1 k c r s m x := by
  intro m
  induction m with
  | zero => intro x; rfl
  | succ m ih => intro x; rw [F5_L2, F5_L1]; simp only [ih]
/-- A text that is read is written back. -/
theorem tail_ok {s : List UInt8} (h2 : s.length ≤ 3000) : (Option.bind (F19 13000 s) fun r79 => (bif (r79.2.2.2 == (0 : Int)) then (Option.bind (F17 13000 r79.1 r79.2.1 r79.2.2.1) fun r82 => (asrt (AV.cleanL r79.2.1) (bif (r82.2 == (0 : Int)) then (bif (r82.1 == s) then (Option.bind (F21 13000 r79.1 r79.2.1 r79.2.2.1) fun r87 => (bif r87 then (Option.bind (F13 13000) fun r90 => (some r90)) else (some false))) else (some false)) else (some false)))) else (Option.bind (F13 13000) fun r92 => (some r92)))) = some true := by
  have hA : F13 13000 = some true := awake_13
  by_cases h : ∃ l' c', vld l' c' = true ∧ textP l' c' = s
  · obtain ⟨l', c', hv, hs⟩ := h
    subst hs
    have hp := vld_pos hv
    have f19 := F19_yes (k := 11999) hv (by omega) (by omega)
    have f17 := F17_eq (k := 12000) (l := l') (c := c') false (by omega) (by omega)
    have f21 := F21_eq (k := 12998) (l := l') (c := c') false (by omega) (by omega)
    rw [hv, if_pos rfl] at f17
    rw [hv] at f21
    rw [show 11999 + 1001 = 13000 from rfl] at f19
    rw [show 12000 + 1000 = 13000 from rfl] at f17
    rw [show 12998 + 2 = 13000 from rfl] at f21
    simp only [f19, f17, f21, Option.bind_some, cleanP, asrt_true, beq_self_eq_true, cond_true, hA]
  · have hno : ∀ l' c', vld l' c' = true → textP l' c' ≠ s := fun l' c' hv e => h ⟨l', c', hv, e⟩
    have f19 := F19_no (k := 8999) h2 hno (by omega)
    rw [show 8999 + 4001 = 13000 from rfl] at f19
    rw [f19, Option.bind_some]
    simp only [show ((30 : Int) == 0) = false from rfl, cond_false, hA, Option.bind_some]
/-- The law, plainly. -/
theorem pathsBack_plain (nl : Bool) (l : List (Int × Int)) (c : Bool) (s : List UInt8) (hnl : nl = true → l = []) : F5 13001 nl (l.map encP) c s = some true := by
  have hA : F13 13000 = some true := awake_13
  rw [show (13001 : Nat) = 13000 + 1 from rfl, F5, List.length_map]
  by_cases h1 : l.length ≤ 200
  · rw [decide_eq_false (show ¬ (200 : Int) < ((l.length : Nat) : Int) by omega), cond_false]
    by_cases h2 : s.length ≤ 3000
    · rw [decide_eq_false (show ¬ (3000 : Int) < ((s.length : Nat) : Int) by omega), cond_false]
      have f21 := F21_eq (k := 12998) (l := l) (c := c) nl (by omega) (by omega)
      rw [show 12998 + 2 = 13000 from rfl] at f21
      have tl := tail_ok h2
      cases hv : vld l c with
      | false =>
        rw [f21, Option.bind_some, cleanP, asrt_true, hv, cond_false]
        exact tl
      | true =>
        obtain rfl : nl = false := by
          cases nl with
          | false => rfl
          | true => have := hnl rfl; subst this; have := vld_pos hv; simp at this
        rw [f21, Option.bind_some, cleanP, asrt_true, hv, cond_true]
        have hvr := vld_rv hv
        have hrl := rv_len l c
        have f17 := F17_eq (k := 12000) (l := l) (c := c) false (by omega) (by omega)
        rw [hv, if_pos rfl, show 12000 + 1000 = 13000 from rfl] at f17
        have f22 := F22_rv (k := 12994) hv (by omega)
        have f22b := F22_rv (k := 12994) hvr (by omega)
        rw [rv_rv] at f22b
        rw [show 12994 + 6 = 13000 from rfl] at f22 f22b
        have f16 := F16_eq (k := 12998) (l := l) (c := c) false false (by omega) (by omega)
        rw [show 12998 + 2 = 13000 from rfl] at f16
        obtain ⟨b1, f23⟩ := F23_all (k := 12994) hv (by omega)
        obtain ⟨b2, f23r⟩ := F23_all (k := 12994) hvr (by omega)
        rw [show 12994 + 6 = 13000 from rfl] at f23 f23r
        have lp := bk_loop (k := 13000) (b1 := b1) (b2 := b2) hv ((l.length + 2) / 3) 13000 0 (by omega) (by omega)
        rw [show ((0 : Nat) : Int) = 0 from rfl] at lp
        have kl : (kn (rv l c)).length = (kn l).length := by rw [kn_len, kn_len, rv_len]
        have z : ((0 : Int) != 0) = false := rfl
        by_cases h4 : (textP l c).length ≤ 20000
        · have f19 := F19_yes (k := 11999) hv h4 (by omega)
          rw [show 11999 + 1001 = 13000 from rfl] at f19
          simp only [f17, f19, f22, f22b, Option.bind_some, cleanP, asrt_true, z, cond_false, cond_true, f16, beq_self_eq_true, f23, f23r, List.length_map, kl, bne_self_eq_false, L2_eq, lp, Sum.elim_inr]
          exact tl
        · have f19 : F19 13000 (textP l c) = some (true, [], false, 3) := by
            rw [show (13000 : Nat) = 12999 + 1 from rfl, F19, decide_eq_true (show (20000 : Int) < (((textP l c).length : Nat) : Int) by omega)]; rfl
          have z3 : ((3 : Int) != 0) = true := rfl
          have hd : decide ((20000 : Int) < (((textP l c).length : Nat) : Int)) = true := decide_eq_true (by omega)
          simp only [f17, f19, f22, f22b, Option.bind_some, cleanP, asrt_true, z, z3, hd, cond_false, cond_true, f16, beq_self_eq_true, f23, f23r, List.length_map, kl, bne_self_eq_false, lp, Sum.elim_inr]
          exact tl
    · rw [decide_eq_true (show (3000 : Int) < ((s.length : Nat) : Int) by omega), cond_true, hA]; rfl
  · rw [decide_eq_true (show (200 : Int) < ((l.length : Nat) : Int) by omega), cond_true, hA]; rfl
end Go.Proofs.YtjfpcgkgdajcfaaGreatDoor
