/-
  Appending is sound; no condition.
-/
import Derived.Test.YtjfpcgkgdajcfaaGreatDoorEvX
namespace Go.Ev
open Go Go.RowKit

section
variable {P : Program} {w : World} {g : G} {x : AV} {s : St} {a : Act} {B : Nat} {o : Oper}
theorem nextslicecap_le (need cap : Nat) (h : cap < need) : Builtin.nextslicecap need cap ≤ 4 * need + 2000 := by
  unfold Builtin.nextslicecap
  split
  · omega
  · split
    · omega
    · unfold Builtin.growBy
      split
      · omega
      · unfold Builtin.growBy
        split
        · omega
        · unfold Builtin.growBy
          split
          · omega
          · unfold Builtin.growBy
            split
            · omega
            · unfold Builtin.growBy
              omega
theorem notInt_parts {t : TypeId} (h : notInt P t = true) : ∃ d, P.underlying t = some d ∧ (∀ k, d ≠ .int k) := by
  unfold notInt at h
  split at h
  · cases h
  · cases h
  · rename_i d hd hu
    exact ⟨d, hu, fun k e => hd k e⟩
theorem append_place {t t2 et ty : TypeId} {base : Option Addr} {len cap m n : Nat} {ag : Bool} {vy : Value} {new : Array Value} {w' : World} (hu : P.underlying t = some (.slice et)) (hty : tyi P et = some (ag, n)) (h2 : notInt P t2 = true) (hlen : ∀ w : World, (Builtin.lenOf vy).run P w = .ok m w)
    (hle : len + m ≤ cap) (hnew : (Builtin.firstCells n m vy).run P w = .ok new w) (hst : match base with | some a => (storeCells (a.add (len * n)) new.toList).run P w = .ok () w' | none => w' = w) :
    (Builtin.append_ #[t, t2] ty #[.slice base len cap, vy]).run P w = .ok (.slice base (len + m) cap) w' := by
  obtain ⟨d, hd, hdn⟩ := notInt_parts h2
  unfold Builtin.append_
  simp only [List.getElem?_toArray, List.getElem?_cons_zero, List.getElem?_cons_succ]
  rw [run_bind, run_underlying hu]
  simp only
  rw [run_bind, run_sizeOf hty]
  simp only
  rw [run_bind, run_underlying hd]
  simp only
  rw [run_bind, run_pure]
  simp only [Bool.false_eq_true, if_false]
  rw [run_bind, hlen]
  simp only
  rw [if_pos hle]
  simp only [Bool.not_false, if_true]
  rw [run_bind, hnew]
  simp only
  cases base with
  | none => simp only at hst; rw [hst]; rfl
  | some ad =>
    simp only at hst ⊢
    rw [run_bind, hst]
    rfl
theorem append_grow {t t2 et ty : TypeId} {base : Option Addr} {len cap m n : Nat} {ag : Bool} {vy v0 : Value} {old new : Array Value} {i : TypeInfo} (hu : P.underlying t = some (.slice et)) (hty : tyi P et = some (ag, n)) (h2 : notInt P t2 = true) (hlen : ∀ w : World, (Builtin.lenOf vy).run P w = .ok m w)
    (hgt : cap < len + m) (hi : P.info? et = some i) (hz0 : ∀ w, (zeroValue et).run P w = .ok v0 w) (hb : (len + m + 1) * (i.bytes + 1) ≤ 2 ^ 36) (hold : (Builtin.firstCells n len (.slice base len cap)).run P w.drew = .ok old w.drew) (hnew : (Builtin.firstCells n m vy).run P w.drew = .ok new w.drew) :
    ∃ newCap, len + m ≤ newCap ∧ (Builtin.append_ #[t, t2] ty #[.slice base len cap, vy]).run P w = .ok (.slice (some ⟨w.heap.size, 0, none⟩) (len + m) newCap) (w.drew.alloc (.cells (old ++ new ++ Builtin.zeroCells v0.cells (newCap - (len + m))) et)) := by
  obtain ⟨d, hd, hdn⟩ := notInt_parts h2
  obtain ⟨newCap, hcap, hch⟩ := run_choose_cap (P := P) (w := w) (need := len + m) (old := cap) (e := et)
  refine ⟨newCap, hcap, ?_⟩
  have h40 : len + m + 1 ≤ 2 ^ 36 := Nat.le_trans (Nat.le_mul_of_pos_right _ (by omega)) hb
  have hns := nextslicecap_le (len + m) cap hgt
  have hmul : Builtin.nextslicecap (len + m) cap * i.bytes ≤ 2 ^ 48 := by
    have h1 : Builtin.nextslicecap (len + m) cap * i.bytes ≤ (4 * (len + m) + 2000) * i.bytes := Nat.mul_le_mul_right _ hns
    have h3 : (len + m) * i.bytes ≤ 2 ^ 36 := Nat.le_trans (Nat.mul_le_mul (by omega) (by omega)) hb
    have h4 : i.bytes ≤ 2 ^ 36 := by
      have : 1 * (i.bytes + 1) ≤ (len + m + 1) * (i.bytes + 1) := Nat.mul_le_mul_right _ (by omega)
      omega
    have h5 : (4 * (len + m) + 2000) * i.bytes = 4 * ((len + m) * i.bytes) + 2000 * i.bytes := by rw [Nat.add_mul, Nat.mul_assoc]
    omega
  unfold Builtin.append_
  simp only [List.getElem?_toArray, List.getElem?_cons_zero, List.getElem?_cons_succ]
  rw [run_bind, run_underlying hu]
  simp only
  rw [run_bind, run_sizeOf hty]
  simp only
  rw [run_bind, run_underlying hd]
  simp only
  rw [run_bind, run_pure]
  simp only [Bool.false_eq_true, if_false]
  rw [run_bind, hlen]
  simp only
  rw [if_neg (by omega)]
  rw [run_bind, run_typeInfo hi]
  simp only
  have h64 : ¬ ((((len + m : Nat) : Int) > IntKind.i64.max) ∧ (False ∨ i.bytes = 0)) := by
    have : IntKind.i64.max = 9223372036854775807 := by decide
    rw [this]; omega
  rw [if_neg h64, run_bind, run_typeInfo hi]
  simp only
  rw [if_neg (by omega), run_bind, hch]
  simp only
  rw [run_bind, run_typeInfo hi]
  simp only
  rw [run_bind, run_askRoom]
  simp only
  rw [run_bind, hold]
  simp only [Bool.not_false, if_true]
  rw [run_bind, hnew]
  simp only
  rw [run_bind, hz0]
  rfl
theorem hasTk_mem {k t len : Nat} {ty : TypeId} {l : List (Nat × Nat × Nat × TypeId)} (h : hasTk k t len ty l = true) : (k, t, len, ty) ∈ l := by
  unfold hasTk at h
  rw [List.any_eq_true] at h
  obtain ⟨⟨a, b, c, d⟩, he, h⟩ := h
  simp only [Bool.and_eq_true, beq_iff_eq] at h
  obtain ⟨rfl, rfl, rfl, rfl⟩ := h
  exact he
theorem zeroCells_size (z : Array Value) (m : Nat) : (Builtin.zeroCells z m).size = m * z.size := by
  unfold Builtin.zeroCells; simp
theorem setTk_same {k t len : Nat} {ty : TypeId} : ∀ {l : List (Nat × Nat × Nat × TypeId)}, hasTk k t len ty l = true → l.Pairwise (fun a b => a.1 < b.1) → setTk k t len ty l = l := by
  intro l
  induction l with
  | nil => intro h _; cases h
  | cons e l ih =>
    intro h hs
    rw [List.pairwise_cons] at hs
    have hm := hasTk_mem h
    rcases List.mem_cons.1 hm with he | he
    · subst he
      simp only [setTk]
      rw [show Nat.blt k k = false by cases hb : Nat.blt k k with | false => rfl | true => exact absurd (Nat.le_of_ble_eq_true hb) (by omega), cond_false, beq_self_eq_true, cond_true]
    · have hlt := hs.1 _ he
      simp only at hlt
      have h1 : Nat.blt k e.1 = false := by cases hb : Nat.blt k e.1 with | false => rfl | true => exact absurd (Nat.le_of_ble_eq_true hb) (by omega)
      have h2 : (e.1 == k) = false := beq_eq_false_iff_ne.2 (by omega)
      simp only [setTk, h1, h2, cond_false]
      rw [ih ?_ hs.2]
      unfold hasTk
      exact List.any_eq_true.2 ⟨_, he, by simp⟩
/-- What is appended: how many, the cells. -/
structure Apd (P : Program) (g : G) (w : World) (n : Nat) (ds : List AV) (vy : Value) : Prop where
  len : ∀ w2 : World, (Builtin.lenOf vy).run P w2 = .ok ds.length w2
  rows : ∀ e ∈ ds, e.row n = true
  cells : ∀ w2 : World, (∀ b o, w2.cell? ⟨b, o, none⟩ = w.cell? ⟨b, o, none⟩) → ∃ cells, (Builtin.firstCells n ds.length vy).run P w2 = .ok cells w2 ∧ Reps g (flat ds) cells.toList
theorem Apd.of {n : Nat} {y : AV} {z : Value} {ds : List AV} (hfz : ∀ b o v, g.fz b o = some v → w.cell? ⟨b, o, none⟩ = some v) (hy : Rep g y z) (h : elemsOf n y = some ds) : Apd P g w n ds z := by
  obtain ⟨h1, h2, _⟩ := run_appended (P := P) hfz hy h
  exact ⟨h1, h2, fun w2 hw => (run_appended (P := P) (w := w2) (fun b o v hv => by rw [hw]; exact hfz b o v hv) hy h).2.2⟩
theorem isIntT_parts {t : TypeId} (h : isIntT P t = true) : ∃ k, P.underlying t = some (.int k) := by
  unfold isIntT at h
  split at h
  · rename_i k hu; exact ⟨k, hu⟩
  · cases h
/-- What appending does with what is appended: in place, or grown. -/
structure Apn (P : Program) (g : G) (w : World) (t t2 et : TypeId) (n : Nat) (ds : List AV) (vy : Value) : Prop where
  rows : ∀ e ∈ ds, e.row n = true
  place : ∃ cells : Array Value, Reps g (flat ds) cells.toList ∧ ∀ (ty : TypeId) (base : Option Addr) (len cap : Nat) (w' : World), len + ds.length ≤ cap → (match base with | some a => (storeCells (a.add (len * n)) cells.toList).run P w = .ok () w' | none => w' = w) →
    (Builtin.append_ #[t, t2] ty #[.slice base len cap, vy]).run P w = .ok (.slice base (len + ds.length) cap) w'
  grow : ∃ new : Array Value, Reps g (flat ds) new.toList ∧ ∀ (ty : TypeId) (base : Option Addr) (len cap : Nat) (old : Array Value) (i : TypeInfo) (v0 : Value), cap < len + ds.length → P.info? et = some i → (∀ w, (zeroValue et).run P w = .ok v0 w) → (len + ds.length + 1) * (i.bytes + 1) ≤ 2 ^ 36 →
    (Builtin.firstCells n len (.slice base len cap)).run P w.drew = .ok old w.drew → ∃ newCap, len + ds.length ≤ newCap ∧ (Builtin.append_ #[t, t2] ty #[.slice base len cap, vy]).run P w = .ok (.slice (some ⟨w.heap.size, 0, none⟩) (len + ds.length) newCap) (w.drew.alloc (.cells (old ++ new ++ Builtin.zeroCells v0.cells (newCap - (len + ds.length))) et))
theorem place0 {t t2 et ty : TypeId} {base : Option Addr} {len cap m n : Nat} {ag : Bool} {v0 : Value} {k2 kk : IntKind} {i : TypeInfo} {w' : World} (hu : P.underlying t = some (.slice et)) (hty : tyi P et = some (ag, n)) (h2 : P.underlying t2 = some (.int k2)) (hi : P.info? et = some i) (hz0 : ∀ w, (zeroValue et).run P w = .ok v0 w) (hm : m * (i.bytes + 1) ≤ 2 ^ 36)
    (hle : len + m ≤ cap) (hst : match base with | some a => (storeCells (a.add (len * n)) (if m * n = 0 then #[] else Builtin.zeroCells v0.cells m).toList).run P w = .ok () w' | none => w' = w) :
    (Builtin.append_ #[t, t2] ty #[.slice base len cap, .int kk (m : Int)]).run P w = .ok (.slice base (len + m) cap) w' := by
  have hm2 : m ≤ 2 ^ 36 := Nat.le_trans (Nat.le_mul_of_pos_right _ (by omega)) hm
  have hmb : m * i.bytes ≤ 2 ^ 36 := Nat.le_trans (Nat.mul_le_mul_left m (by omega)) hm
  have hwr : IntKind.i64.wrap (m : Int) = (m : Int) := by
    unfold IntKind.wrap
    simp [IntKind.bits, IntKind.signed]
    omega
  unfold Builtin.append_
  simp only [List.getElem?_toArray, List.getElem?_cons_zero, List.getElem?_cons_succ]
  rw [run_bind, run_underlying hu]
  simp only
  rw [run_bind, run_sizeOf hty]
  simp only
  rw [run_bind, run_underlying h2]
  simp only
  rw [run_bind, run_pure]
  simp only [if_true]
  rw [run_bind]
  simp only [asInt]
  rw [run_bind, run_asIntOf]
  simp only [run_pure, hwr]
  rw [if_neg (by omega), run_bind, run_typeInfo hi]
  simp only
  rw [if_neg (by rw [← Int.natCast_mul]; omega), run_bind, run_pure]
  simp only [Int.toNat_natCast]
  rw [if_pos hle]
  simp only [Bool.not_true, Bool.false_eq_true, if_false]
  by_cases h0 : m * n = 0
  · rw [if_pos h0, run_bind, run_pure]
    rw [if_pos h0] at hst
    cases base with
    | none => simp only at hst; rw [hst]; rfl
    | some ad =>
      simp only at hst ⊢
      rw [run_bind, hst]
      rfl
  · rw [if_neg h0, run_bind, run_bind, hz0]
    simp only [run_pure]
    rw [if_neg h0] at hst
    cases base with
    | none => simp only at hst; rw [hst]; rfl
    | some ad =>
      simp only at hst ⊢
      rw [run_bind, hst]
      rfl
theorem grow0 {t t2 et ty : TypeId} {base : Option Addr} {len cap m n : Nat} {ag : Bool} {v0 : Value} {k2 kk : IntKind} {i : TypeInfo} {old : Array Value} (hu : P.underlying t = some (.slice et)) (hty : tyi P et = some (ag, n)) (h2 : P.underlying t2 = some (.int k2)) (hi : P.info? et = some i) (hz0 : ∀ w, (zeroValue et).run P w = .ok v0 w) (hm : m * (i.bytes + 1) ≤ 2 ^ 36)
    (hgt : cap < len + m) (hb : (len + m + 1) * (i.bytes + 1) ≤ 2 ^ 36) (hold : (Builtin.firstCells n len (.slice base len cap)).run P w.drew = .ok old w.drew) :
    ∃ newCap, len + m ≤ newCap ∧ (Builtin.append_ #[t, t2] ty #[.slice base len cap, .int kk (m : Int)]).run P w = .ok (.slice (some ⟨w.heap.size, 0, none⟩) (len + m) newCap) (w.drew.alloc (.cells (old ++ (if m * n = 0 then #[] else Builtin.zeroCells v0.cells m) ++ Builtin.zeroCells v0.cells (newCap - (len + m))) et)) := by
  have hm2 : m ≤ 2 ^ 36 := Nat.le_trans (Nat.le_mul_of_pos_right _ (by omega)) hm
  have hmb : m * i.bytes ≤ 2 ^ 36 := Nat.le_trans (Nat.mul_le_mul_left m (by omega)) hm
  have hwr : IntKind.i64.wrap (m : Int) = (m : Int) := by
    unfold IntKind.wrap
    simp [IntKind.bits, IntKind.signed]
    omega
  obtain ⟨newCap, hcap, hch⟩ := run_choose_cap (P := P) (w := w) (need := len + m) (old := cap) (e := et)
  refine ⟨newCap, hcap, ?_⟩
  have h40 : len + m + 1 ≤ 2 ^ 36 := Nat.le_trans (Nat.le_mul_of_pos_right _ (by omega)) hb
  have hns := nextslicecap_le (len + m) cap hgt
  have hmul : Builtin.nextslicecap (len + m) cap * i.bytes ≤ 2 ^ 48 := by
    have h1 : Builtin.nextslicecap (len + m) cap * i.bytes ≤ (4 * (len + m) + 2000) * i.bytes := Nat.mul_le_mul_right _ hns
    have h3 : (len + m) * i.bytes ≤ 2 ^ 36 := Nat.le_trans (Nat.mul_le_mul (by omega) (by omega)) hb
    have h4 : i.bytes ≤ 2 ^ 36 := by
      have : 1 * (i.bytes + 1) ≤ (len + m + 1) * (i.bytes + 1) := Nat.mul_le_mul_right _ (by omega)
      omega
    have h5 : (4 * (len + m) + 2000) * i.bytes = 4 * ((len + m) * i.bytes) + 2000 * i.bytes := by rw [Nat.add_mul, Nat.mul_assoc]
    omega
  unfold Builtin.append_
  simp only [List.getElem?_toArray, List.getElem?_cons_zero, List.getElem?_cons_succ]
  rw [run_bind, run_underlying hu]
  simp only
  rw [run_bind, run_sizeOf hty]
  simp only
  rw [run_bind, run_underlying h2]
  simp only
  rw [run_bind, run_pure]
  simp only [if_true]
  rw [run_bind]
  simp only [asInt]
  rw [run_bind, run_asIntOf]
  simp only [run_pure, hwr]
  rw [if_neg (by omega), run_bind, run_typeInfo hi]
  simp only
  rw [if_neg (by rw [← Int.natCast_mul]; omega), run_bind, run_pure]
  simp only [Int.toNat_natCast]
  rw [if_neg (by omega)]
  rw [run_bind, run_typeInfo hi]
  simp only
  have h64 : ¬ ((((len + m : Nat) : Int) > IntKind.i64.max) ∧ (True ∨ i.bytes = 0)) := by
    have : IntKind.i64.max = 9223372036854775807 := by decide
    rw [this]; omega
  rw [if_neg h64, run_bind, run_typeInfo hi]
  simp only
  rw [if_neg (by omega), run_bind, hch]
  simp only
  rw [run_bind, run_typeInfo hi]
  simp only
  rw [run_bind, run_askRoom]
  simp only
  rw [run_bind, hold]
  simp only [Bool.not_true, Bool.false_eq_true, if_false]
  by_cases h0 : m * n = 0
  · rw [if_pos h0, if_pos h0, run_bind, run_pure]
    simp only
    rw [run_bind, hz0]
    rfl
  · rw [if_neg h0, if_neg h0, run_bind, run_bind, hz0]
    simp only [run_pure]
    rw [run_bind, hz0]
    rfl
theorem Apn.of {t t2 et : TypeId} {n : Nat} {ag : Bool} {ds : List AV} {vy : Value} (hu : P.underlying t = some (.slice et)) (hty : tyi P et = some (ag, n)) (h2 : notInt P t2 = true) (h : Apd P g w n ds vy) : Apn P g w t t2 et n ds vy := by
  obtain ⟨c1, a1, a2⟩ := h.cells w (fun _ _ => rfl)
  obtain ⟨c2, b1, b2⟩ := h.cells w.drew (fun _ _ => rfl)
  exact ⟨h.rows, ⟨c1, a2, fun ty base len cap w' hle hst => append_place hu hty h2 h.len hle a1 hst⟩, ⟨c2, b2, fun ty base len cap old i v0 hgt hi hz hb hold => append_grow hu hty h2 h.len hgt hi hz hb hold b1⟩⟩
theorem Apn.zeros {t t2 et : TypeId} {n m : Nat} {ag : Bool} {v0 : Value} {k2 kk : IntKind} {i : TypeInfo} (hu : P.underlying t = some (.slice et)) (hty : tyi P et = some (ag, n)) (h2 : P.underlying t2 = some (.int k2)) (hi : P.info? et = some i) (hz0 : ∀ w, (zeroValue et).run P w = .ok v0 w) (hrow : (AV.of v0).row n = true) (hn : n ≠ 0) (hm : m * (i.bytes + 1) ≤ 2 ^ 36) :
    Apn P g w t t2 et n (List.replicate m (.of v0)) (.int kk (m : Int)) := by
  have hzs : v0.cells.size = n := by
    obtain ⟨hzl, hzc⟩ := AV.row_iff.1 hrow
    have hzr := ((Rep.of g v0).cells hzc).1
    have := hzr.1; rw [Array.length_toList] at this; rw [this]; exact hzl
  have hreps : Reps g (flat (List.replicate m (AV.of v0))) (if m * n = 0 then (#[] : Array Value) else Builtin.zeroCells v0.cells m).toList := by
    by_cases h0 : m * n = 0
    · have hm0 : m = 0 := by
        rcases Nat.mul_eq_zero.1 h0 with h | h
        · exact h
        · exact absurd h hn
      subst hm0
      rw [if_pos h0]; exact .nil g
    · rw [if_neg h0]
      have := zeros_reps (g := g) (N := m * n) (len := m) hrow (by omega) (Nat.le_refl _)
      rw [List.take_of_length_le (by simp)] at this
      unfold Builtin.zeroCells
      rw [hzs] at *
      exact this
  exact ⟨replicate_rows hrow, ⟨_, hreps, fun ty base len cap w' hle hst => by
      rw [List.length_replicate] at hle ⊢
      exact place0 hu hty h2 hi hz0 hm hle (by cases base <;> exact hst)⟩, ⟨_, hreps, fun ty base len cap old i' v0' hgt hi' hz' hb hold => by
      rw [List.length_replicate] at hgt hb ⊢
      rw [hi] at hi'; injection hi' with hi'; subst hi'
      have hv : v0' = v0 := by
        have a1 := hz0 w
        rw [hz' w] at a1
        injection a1
      subst hv
      exact grow0 hu hty h2 hi hz0 hm hgt hb hold⟩⟩
/-- The elements of an own row, read. -/
theorem own_cells {bk : Blk} {b lim lo len : Nat} (ho : Own g w B bk b lim) (hl : lo + len ≤ bk.els.length) (w2 : World) (hw2 : ∀ o, w2.cell? ⟨b, o, none⟩ = w.cell? ⟨b, o, none⟩) :
    ∃ old : Array Value, (∀ cap, (Builtin.firstCells bk.n len (.slice (some ⟨b, lo * bk.n, none⟩) len cap)).run P w2 = .ok old w2) ∧ Reps g (flat ((bk.els.drop lo).take len)) old.toList := by
  have hrows : ∀ e ∈ (bk.els.drop lo).take len, e.row bk.n = true := fun e he => ho.rows e (List.mem_of_mem_drop (List.mem_of_mem_take he))
  have hlen : (flat ((bk.els.drop lo).take len)).length = len * bk.n := by rw [flat_len hrows, List.length_take, List.length_drop, Nat.min_eq_left (by omega)]
  let ff : Nat → Value := fun q => (w.cell? ⟨b, lo * bk.n + q, none⟩).getD Go.undef
  have hle : (lo + len) * bk.n ≤ lim := Nat.le_trans (Nat.mul_le_mul_right _ hl) ho.fit
  rw [Nat.add_mul] at hle
  have hc : ∀ q, q < len * bk.n → w.cell? ⟨b, lo * bk.n + q, none⟩ = some (ff q) := fun q hq => by
    obtain ⟨v, hv⟩ := Option.isSome_iff_exists.1 (ho.have_ (lo * bk.n + q) (by omega))
    simp only [ff, hv, Option.getD_some]
  refine ⟨((List.range (len * bk.n)).map ff).toArray, fun cap => ?_, ⟨by simp [hlen], fun q c v hq hv => ?_⟩⟩
  · unfold Builtin.firstCells
    exact run_loadCells ⟨b, lo * bk.n, none⟩ ff (len * bk.n) (fun j hj => by rw [add_addr _ rfl, hw2, hc j hj])
  · have hlt : q < len * bk.n := by rw [← hlen]; exact (List.getElem?_eq_some_iff.1 hq).1
    obtain ⟨e, h1, h2, h3, h4⟩ := flat_inv ho.pos hrows hq
    have h1' : bk.els[lo + q / bk.n]? = some e := by
      rw [List.getElem?_take] at h1
      split at h1
      · rw [List.getElem?_drop] at h1; exact h1
      · cases h1
    obtain ⟨v', hv', hr'⟩ := ho.cell _ _ e c h1' h2
    rw [show (lo + q / bk.n) * bk.n + q % bk.n = lo * bk.n + q by rw [Nat.add_mul, Nat.add_assoc]; congr 1; rw [Nat.mul_comm]; exact Nat.div_add_mod q bk.n, hc q hlt] at hv'
    injection hv' with hv'
    simp only [List.getElem?_map, List.getElem?_range hlt, Option.map_some, Option.some.injEq] at hv
    subst hv
    rw [hv']; exact hr'
theorem Apd.row {s : St} {B k gg n lo len : Nat} {full : Bool} {bk : Blk} {z : Value} (hm : Mem g s w B) (hz : Rep g (.hs k gg n lo len full) z) (hbk : s.blk k gg = some bk) (hl : lo + len ≤ bk.els.length) (hn : bk.n = n) : Apd P g w n ((bk.els.drop lo).take len) z := by
  obtain ⟨h5, h6, h7⟩ := blk_parts hbk
  obtain ⟨b, lim, ho⟩ := hm.blks bk h5
  cases hz with
  | hs _ _ _ _ _ _ b' lim' cap hη hcap hl' hf =>
  have hη2 := ho.eta
  rw [h7, hη, hn] at hη2; injection hη2 with hη2; simp only [Prod.mk.injEq] at hη2
  obtain ⟨rfl, _, rfl⟩ := hη2
  have hll : ((bk.els.drop lo).take len).length = len := by rw [List.length_take, List.length_drop, Nat.min_eq_left (by omega)]
  refine ⟨fun w2 => by rw [hll]; rfl, fun e he => by rw [← hn]; exact ho.rows e (List.mem_of_mem_drop (List.mem_of_mem_take he)), fun w2 hw2 => ?_⟩
  obtain ⟨old, h1, h2⟩ := own_cells (P := P) ho hl w2 (fun o => hw2 b' o)
  rw [hll]
  rw [hn] at h1
  exact ⟨old, h1 cap, h2⟩
theorem ren_nod {k gg t : Nat} {els : List AV} : ∀ {l : List Blk}, (l.map (·.g)).Nodup → (∀ c ∈ l, c.g ≠ t) → ((l.map fun b => bif b.k == k && b.g == gg then { b with g := t, els } else b).map (·.g)).Nodup := by
  intro l
  induction l with
  | nil => intro _ _; exact List.Pairwise.nil
  | cons c l ih =>
    intro h ht
    rw [List.map_cons, List.nodup_cons] at h
    rw [List.map_cons, List.map_cons, List.nodup_cons]
    refine ⟨fun hm => ?_, ih h.2 (fun d hd => ht d (List.mem_cons_of_mem _ hd))⟩
    obtain ⟨d', hd', he⟩ := List.mem_map.1 hm
    obtain ⟨d, hd, rfl⟩ := List.mem_map.1 hd'
    have hdc : d.g ≠ c.g := fun e => h.1 (List.mem_map.2 ⟨d, hd, e⟩)
    cases h1 : (c.k == k && c.g == gg) with
    | true =>
      rw [h1, cond_true] at he
      have hcg : c.g = gg := by rw [Bool.and_eq_true, beq_iff_eq, beq_iff_eq] at h1; exact h1.2
      have h2 : (d.k == k && d.g == gg) = false := by
        rw [show (d.g == gg) = false by simp; rw [← hcg]; exact hdc, Bool.and_false]
      rw [h2, cond_false] at he
      exact ht d (List.mem_cons_of_mem _ hd) he
    | false =>
      rw [h1, cond_false] at he
      cases h2 : (d.k == k && d.g == gg) with
      | true => rw [h2, cond_true] at he; exact ht c List.mem_cons_self he.symm
      | false => rw [h2, cond_false] at he; exact hdc he
/-- Appending to a row of our own. -/
theorem appH_sound {t t2 ty : TypeId} {n bs k gg lo len : Nat} {full ag : Bool} {vx vy : Value} {ds : List AV} {s' : St} {acc : Acc} {ety : TypeId} (hety : elT P t = ety) (hm : Mem g s w B) (hx : Rep g (.hs k gg n lo len full) vx) (hap : ∀ et, P.underlying t = some (.slice et) → Apn P g w t t2 et n ds vy) (he : eli P t = some (ag, n)) (hbs : bytesOf P t = some bs) (hz : zOk P t n = true) (hn : n ≠ 0)
    (hbound : (len + ds.length + 1) * (bs + 1) ≤ 2 ^ 36) (h : appH ety n k gg lo len ds s = some (x, acc, s')) :
    ∃ v w' g', (Builtin.append_ #[t, t2] ty #[vx, vy]).run P w = .ok v w' ∧ Rep g' x v ∧ g.le g' ∧ Mem g' s' w' B ∧ Below B w w' ∧ ∀ b o, b < B → g'.fz b o = g.fz b o := by
  obtain ⟨et, hu, hty⟩ := eli_parts he
  obtain ⟨et2, i, hu2, hi, hib⟩ := bytesOf_parts hbs
  rw [hu] at hu2; injection hu2 with hu2; injection hu2 with hu2; subst hu2
  obtain ⟨zv, hzv, hzrow⟩ : ∃ zv, (∀ w, (zeroValue et).run P w = .ok zv w) ∧ (AV.of zv).row n = true := by
    unfold zOk at hz
    split at hz
    · rename_i z hz1
      obtain ⟨v, h1, rfl⟩ := zerE_parts hu hz1
      exact ⟨v, h1, hz⟩
    · cases hz
  have hzs : zv.cells.size = n := by
    obtain ⟨hzl, hzc⟩ := AV.row_iff.1 hzrow
    have hzr := ((Rep.of g zv).cells hzc).1
    have := hzr.1; rw [Array.length_toList] at this; rw [this]; exact hzl
  have hety' : ety = et := by rw [← hety]; unfold elT; rw [hu]
  unfold appH at h
  rw [Option.bind_eq_some_iff] at h
  obtain ⟨bk, hbk, h⟩ := h
  obtain ⟨hc1, h⟩ := cnd_some h
  obtain ⟨hc2, h⟩ := bif_some h
  injection h with h
  simp only [Prod.mk.injEq] at h
  obtain ⟨rfl, rfl, rfl⟩ := h
  obtain ⟨hlo, hlen⟩ := of_decide_eq_true hc1
  simp only [Bool.and_eq_true, beq_iff_eq, Bool.not_eq_true'] at hc2
  obtain ⟨hbn, hbty, hbva, hbfz⟩ := hc2
  obtain ⟨h5, h6, h7⟩ := blk_parts hbk
  obtain ⟨b, lim, ho⟩ := hm.blks bk h5
  subst hlo
  cases hx with
  | hs _ _ _ _ _ _ b' lim' cap hη hcap hl hf =>
  have hη2 := ho.eta
  rw [h7, hη, hbn] at hη2; injection hη2 with hη2; simp only [Prod.mk.injEq] at hη2
  obtain ⟨rfl, _, rfl⟩ := hη2
  rw [Nat.zero_mul]
  rw [Nat.zero_add] at hl
  let s0 : St := { s with hp := s.hp.filter fun c => !(c.k == k && c.g == gg) }
  have hm0 : Mem g s0 w B := hm.sub List.filter_sublist rfl rfl
  have hfresh : Fresh g s0 b' := {
    hp := fun q hq nn l heta => by
      obtain ⟨q1, q2⟩ := List.mem_filter.1 hq
      have e1 := hm.inj q q1 bk h5 b' _ _ _ _ heta ho.eta
      have e2 := hp_uniq hm h5 q1 e1
      rw [e2, h6, h7] at q2
      simp at q2
    lv := fun e he p q hr => by
      have := hm.apart e he bk h5 b' p q n lim' hr
      rw [h7] at this
      exact this hη }
  have hap := hap et hu
  have hdrows := hap.rows
  obtain ⟨cells, hcr, hplace⟩ := hap.place
  have hrows : ∀ e ∈ bk.els.take len ++ ds, e.row n = true := fun e he => by
    rcases List.mem_append.1 he with he | he
    · rw [← hbn]; exact ho.rows e (List.mem_of_mem_take he)
    · exact hdrows e he
  have hll : (bk.els.take len ++ ds).length = len + ds.length := by rw [List.length_append, List.length_take, Nat.min_eq_left hlen]
  let bn : Blk := { bk with g := s.nw k, els := bk.els.take len ++ ds }
  have hbnk : bn.k = k := h6
  have hbnn : bn.n = n := hbn
  have hmem' : ∀ q ∈ (s.ren k gg (bk.els.take len ++ ds)).hp, q = bn ∨ q ∈ s0.hp := fun q hq => by
    obtain ⟨c, hc, rfl⟩ := List.mem_map.1 hq
    cases hcc : (c.k == k && c.g == gg) with
    | true =>
      left
      rw [Bool.and_eq_true, beq_iff_eq, beq_iff_eq] at hcc
      have := hp_uniq hm h5 hc (hcc.2.trans h7.symm)
      subst this; rfl
    | false =>
      right
      rw [cond_false]
      exact List.mem_filter.2 ⟨hc, by rw [hcc]; rfl⟩
  have hnod' : ((s.ren k gg (bk.els.take len ++ ds)).hp.map (·.g)).Nodup := ren_nod hm.nod (fun c hc e => not_used k s.nx (by rw [show pairN k (s.nx k) = s.nw k from rfl, ← e]; exact hm.old c hc))
  by_cases hle : len + ds.length ≤ cap
  · -- in place
    have hcl : cells.toList.length = ds.length * n := by have := hcr.1; rw [flat_len hdrows] at this; exact this
    have hcv : ∀ v ∈ cells.toList, cellV v = true := fun v hv => by
      obtain ⟨q, hq⟩ := List.mem_iff_getElem?.1 hv
      have hlt : q < (flat ds).length := by rw [← hcr.1]; exact (List.getElem?_eq_some_iff.1 hq).1
      have hfq : (flat ds)[q]? = some (flat ds)[q] := List.getElem?_eq_getElem hlt
      obtain ⟨e, h1, h2, _, _⟩ := flat_inv (by omega) hdrows hfq
      have hce := (AV.row_iff.1 (hdrows e (List.mem_of_getElem? h1))).2
      exact (hcr.2 q _ _ hfq hq).cellV (List.all_eq_true.1 hce _ (List.mem_of_getElem? h2))
    have hcm : len * n + ds.length * n ≤ lim' := by
      rw [← Nat.add_mul]; exact Nat.le_trans (Nat.mul_le_mul_right n hle) hl
    have hadd : Addr.add ⟨b', 0, none⟩ (len * n) = ⟨b', len * n, none⟩ := by rw [add_addr _ rfl, Nat.zero_add]
    obtain ⟨w', hst, hgb, ⟨hshw, hfr⟩, hce⟩ := run_storeCells (P := P) ⟨b', len * n, none⟩ rfl cells.toList 0 w hcv (fun j hj => ⟨ho.have_ _ (by simp only; omega), ho.free _ (by simp only; omega)⟩)
    simp only [Nat.add_zero, hcl] at hfr hce
    have hrun := hplace ty (some ⟨b', 0, none⟩) len cap w' hle (by simp only; rw [hadd]; exact hst)
    have hm1 : Mem g s0 w' B := hm0.write (b := b') hfresh hgb (.refl g) rfl rfl (fun _ _ _ => rfl) (fun o v hv => by rw [ho.live hbfz o] at hv; cases hv)
    have hgle : g.le (g.var bn.g b' bn.n lim') := G.var_le (hm.etaN _ (not_used _ _))
    have how : Own (g.var bn.g b' bn.n lim') w' B bn b' lim' := {
      eta := by unfold G.var; simp only [if_true]
      base := ho.base
      size := Nat.lt_of_lt_of_le ho.size hgb.size
      pos := ho.pos
      fit := by show (bk.els.take len ++ ds).length * bk.n ≤ lim'; rw [hbn, hll, Nat.add_mul]; exact hcm
      rows := fun e he => by rw [hbnn]; exact hrows e he
      have_ := fun o hlt => by
        rw [hce]
        split
        · rename_i hr
          rw [List.getElem?_eq_getElem (by omega)]; rfl
        · exact ho.have_ o hlt
      free := fun o hlt => by rw [hfr]; exact ho.free o hlt
      cell := fun p j e c hp hc => by
        have e0 : p * bn.n + j = p * n + j := by rw [hbnn]
        rw [e0]
        have hj : j < n := by
          have := (List.getElem?_eq_some_iff.1 hc).1
          rw [(AV.row_iff.1 (hrows e (List.mem_of_getElem? hp))).1] at this; exact this
        have hp : (bk.els.take len ++ ds)[p]? = some e := hp
        by_cases hpl : p < len
        · rw [List.getElem?_append_left (by rw [List.length_take, Nat.min_eq_left hlen]; exact hpl), List.getElem?_take, if_pos hpl] at hp
          obtain ⟨v, hv, hr⟩ := ho.cell p j e c hp hc
          rw [hbn] at hv
          refine ⟨v, ?_, hr.mono hgle⟩
          rw [hce, if_neg ?_]
          · exact hv
          · intro q
            have : p * n + n ≤ len * n := by rw [← Nat.succ_mul]; exact Nat.mul_le_mul_right n hpl
            omega
        · rw [List.getElem?_append_right (by rw [List.length_take, Nat.min_eq_left hlen]; omega), List.length_take, Nat.min_eq_left hlen] at hp
          have hfg := flat_get hdrows (p - len) j e c hp hc
          have hlt := (List.getElem?_eq_some_iff.1 hfg).1
          rw [← hcr.1] at hlt
          have hcg : cells.toList[(p - len) * n + j]? = some cells.toList[(p - len) * n + j] := List.getElem?_eq_getElem hlt
          have e1 : p * n + j = len * n + ((p - len) * n + j) := by
            rw [← Nat.add_assoc, ← Nat.add_mul]; congr 2; omega
          refine ⟨_, ?_, (hcr.2 _ c _ hfg hcg).mono hgle⟩
          rw [hce, e1, if_pos (by omega), show len * n + ((p - len) * n + j) - len * n = (p - len) * n + j by omega]
          exact hcg
      shp := by rw [hshw, ho.shp]
      whole := fun h => by rw [show bn.va = false from hbva] at h; cases h
      live := fun _ o => ho.live hbfz o
      held := fun h => by rw [show bn.fz = false from hbfz] at h; cases h }
    have hm2 := hm1.addAny (s' := s.ren k gg (bk.els.take len ++ ds)) (x := bn) (show s.nw k = s.nw bn.k by rw [hbnk]) how ⟨fun q hq => hfresh.hp q hq, fun e he => hfresh.lv e he⟩ hmem' hnod' (show bump k s.nx = bump bn.k s.nx by rw [hbnk]) rfl
    refine ⟨_, w', _, hrun, ?_, hgle, hm2, (Below.refl B w).grown hgb hm.base (fun q hq => by injection hq with hq; subst hq; exact ho.base), fun _ _ _ => rfl⟩
    have := Rep.hs (g := g.var bn.g b' bn.n lim') k (s.nw k) n 0 (len + ds.length) false b' lim' cap (how.eta.trans (by rw [hbnn])) hle (by rw [Nat.zero_add]; exact hl) (fun q => by cases q)
    rw [Nat.zero_mul] at this
    exact this
  · -- grown
    obtain ⟨old, hold, hor⟩ := own_cells (P := P) (lo := 0) (len := len) ho (by omega) w.drew (fun _ => rfl)
    obtain ⟨new, hnr, hgr⟩ := hap.grow
    rw [hbn, Nat.zero_mul] at hold
    rw [List.drop_zero] at hor
    obtain ⟨newCap, hnc, hrun⟩ := hgr ty _ len cap old i zv (by omega) hi hzv (by rw [hib]; exact hbound) (hold cap)
    have hl1 : old.size = len * n := by
      have := hor.1
      rw [Array.length_toList, flat_len (fun e he => ho.rows e (List.mem_of_mem_take he)), List.length_take, Nat.min_eq_left hlen, hbn] at this
      exact this
    have hl2 : new.size = ds.length * n := by have := hnr.1; rw [Array.length_toList, flat_len hdrows] at this; exact this
    let vs : Array Value := old ++ new ++ Builtin.zeroCells zv.cells (newCap - (len + ds.length))
    have hgb : w.grownBy (w.drew.alloc (.cells vs et)) none := ⟨rfl, rfl, rfl, by simp, fun k hk _ => Below.heap_alloc w.drew _ k hk⟩
    have hr : Reps g (flat (bk.els.take len ++ ds)) (vs.toList.take ((bk.els.take len ++ ds).length * n)) := by
      rw [flat_app]
      have happ := hor.app hnr
      have hl3 : (old.toList ++ new.toList).length = (bk.els.take len ++ ds).length * n := by rw [hll]; simp [hl1, hl2, Nat.add_mul]
      have : vs.toList.take ((bk.els.take len ++ ds).length * n) = old.toList ++ new.toList := by
        simp only [vs, Array.toList_append]
        rw [List.take_append_of_le_length (by omega), List.take_of_length_le (by omega)]
      rw [this]; exact happ
    have hvs : vs.size = newCap * n := by
      simp only [vs, Array.size_append, hl1, hl2, zeroCells_size, hzs]
      rw [← Nat.add_mul, ← Nat.add_mul]
      congr 1
      omega
    let w2 := w.drew.alloc (.cells vs et)
    have hm1 : Mem g s0 w2 B := hm0.grow (.refl g) rfl rfl (fun _ _ _ => rfl) hgb (fun b o v hb hv => absurd (cell_lt (hm0.held _ _ _ hv)) (by omega))
    have hgle : g.le (g.var bn.g w.heap.size bn.n (newCap * n)) := G.var_le (hm.etaN _ (not_used _ _))
    have hlen' := flat_len hrows
    have hcell : ∀ o, w2.cell? ⟨w.heap.size, o, none⟩ = vs[o]? := fun o => cell_new w.drew vs et (0, 0) o
    have hmul : (len + ds.length) * n ≤ newCap * n := Nat.mul_le_mul_right n hnc
    have how : Own (g.var bn.g w.heap.size bn.n (newCap * n)) w2 B bn w.heap.size (newCap * n) := {
      eta := by unfold G.var; simp only [if_true]
      base := hm.base
      size := by simp [w2]
      pos := ho.pos
      fit := by show (bk.els.take len ++ ds).length * bk.n ≤ newCap * n; rw [hbn, hll]; exact hmul
      rows := fun e he => by rw [hbnn]; exact hrows e he
      have_ := fun o hlt => by rw [hcell, Array.getElem?_eq_getElem (by omega)]; rfl
      free := fun o _ => frozen_new w.drew vs et o
      cell := fun p j e c he hc2 => by
        have e0 : p * bn.n + j = p * n + j := by rw [hbnn]
        rw [e0]
        have hfg := flat_get hrows p j e c he hc2
        have hlt := (List.getElem?_eq_some_iff.1 hfg).1
        rw [hlen'] at hlt
        rw [hll] at hlt hr
        have hv : vs[p * n + j]? = some vs[p * n + j] := Array.getElem?_eq_getElem (by omega)
        refine ⟨_, by rw [hcell]; exact hv, ?_⟩
        exact (hr.2 (p * n + j) c _ hfg (by rw [List.getElem?_take, if_pos hlt, Array.getElem?_toList, hv])).mono hgle
      shp := by
        show w2.shape? w.heap.size = some (bk.ty, newCap * n)
        rw [hbty, hety', ← hvs]; exact shape_new w.drew vs et
      whole := fun h => by rw [show bn.va = false from hbva] at h; cases h
      live := fun _ o => hm.fz_new (Nat.le_refl _) o
      held := fun h => by rw [show bn.fz = false from hbfz] at h; cases h }
    have hfr2 := hm0.fresh (b := w.heap.size) (Nat.le_refl _)
    have hm2 := hm1.addAny (s' := s.ren k gg (bk.els.take len ++ ds)) (x := bn) (show s.nw k = s.nw bn.k by rw [hbnk]) how ⟨fun q hq => hfr2.hp q hq, fun e he => hfr2.lv e he⟩ hmem' hnod' (show bump k s.nx = bump bn.k s.nx by rw [hbnk]) rfl
    refine ⟨_, w2, _, hrun, ?_, hgle, hm2, (Below.refl B w).grown hgb hm.base (fun k hk => by cases hk), fun _ _ _ => rfl⟩
    have := Rep.hs (g := g.var bn.g w.heap.size bn.n (newCap * n)) k (s.nw k) n 0 (len + ds.length) false w.heap.size (newCap * n) newCap (how.eta.trans (by rw [hbnn])) hnc (by rw [Nat.zero_add]; exact Nat.le_refl _) (fun q => by cases q)
    rw [Nat.zero_mul] at this
    exact this
/-- Appending to what is no row of our own. -/
theorem app_sound {t t2 ty : TypeId} {n bs k : Nat} {ag : Bool} {p vy : AV × Value} {s' : St} {mu : Bool} {acc : Acc} {ety : TypeId} (hety : elT P t = ety) (hm : Mem g s w B) (hx : Rep g p.1 p.2) (hap : ∀ et ds, P.underlying t = some (.slice et) → elemsOf n vy.1 = some ds → Apn P g w t t2 et n ds vy.2) (he : eli P t = some (ag, n)) (hbs : bytesOf P t = some bs) (hz : zOk P t n = true) (hn : n ≠ 0)
    (h : app mu ety n bs k p.1 vy.1 s = some (x, acc, s')) :
    ∃ v w' g', (Builtin.append_ #[t, t2] ty #[p.2, vy.2]).run P w = .ok v w' ∧ Rep g' x v ∧ g.le g' ∧ Mem g' s' w' B ∧ Below B w w' ∧ ∀ b o, b < B → g'.fz b o = g.fz b o := by
  obtain ⟨et, hu, hty⟩ := eli_parts he
  obtain ⟨et2, i, hu2, hi, hib⟩ := bytesOf_parts hbs
  rw [hu] at hu2; injection hu2 with hu2; injection hu2 with hu2; subst hu2
  obtain ⟨zv, hzv, hzrow⟩ : ∃ zv, (∀ w, (zeroValue et).run P w = .ok zv w) ∧ (AV.of zv).row n = true := by
    unfold zOk at hz
    split at hz
    · rename_i z hz1
      obtain ⟨v, h1, rfl⟩ := zerE_parts hu hz1
      exact ⟨v, h1, hz⟩
    · cases hz
  have hzs : zv.cells.size = n := by
    obtain ⟨hzl, hzc⟩ := AV.row_iff.1 hzrow
    have hzr := ((Rep.of g zv).cells hzc).1
    have := hzr.1; rw [Array.length_toList] at this; rw [this]; exact hzl
  obtain ⟨px, pv⟩ := p
  obtain ⟨py, pw⟩ := vy
  simp only at hx hap h ⊢
  unfold app at h
  split at h
  case h_3 => cases h
  case h_2 =>
    rename_i k' gg n' lo len full
    rw [Option.bind_eq_some_iff] at h
    obtain ⟨ds, hds, h⟩ := h
    obtain ⟨hc, h⟩ := cnd_some h
    rw [Bool.and_eq_true] at hc
    have hnn : n' = n := by simpa using hc.2
    subst hnn
    have hbound : (len + ds.length + 1) * (bs + 1) ≤ 2 ^ 36 := by simpa using hc.1
    cases hde : ds.isEmpty with
    | true =>
      rw [hde] at h
      injection h with h
      simp only [Prod.mk.injEq] at h
      obtain ⟨rfl, rfl, rfl⟩ := h
      have hd : ds = [] := by simpa using hde
      subst hd
      obtain ⟨cells, hcr, hplace⟩ := (hap _ _ hu hds).place
      have hce : cells.toList = [] := hcr.inv0
      cases hx with
      | hs _ _ _ _ _ _ b lim cap hη hcap hl hf =>
      refine ⟨_, w, g, hplace _ _ _ _ _ hcap ?_, .hs _ _ _ _ _ _ b lim cap hη hcap hl hf, .refl g, hm, .refl B w, fun _ _ _ => rfl⟩
      simp only; rw [hce]; rfl
    | false =>
      rw [hde, cnd_false] at h
      exact appH_sound hety hm hx (fun et hu => hap _ _ hu hds) he hbs hz hn hbound h
  rename_i nil n' els tok
  rw [Option.bind_eq_some_iff] at h
  obtain ⟨ds, hds, h⟩ := h
  obtain ⟨hc, h⟩ := cnd_some h
  rw [Bool.and_eq_true] at hc
  obtain ⟨hbound, hn'⟩ := hc
  have hbound : (els.length + ds.length + 1) * (i.bytes + 1) ≤ 2 ^ 36 := by rw [hib]; simpa using hbound
  have hn' : els = [] ∨ n' = n := by simpa using hn'
  have hdrows := (hap _ _ hu hds).rows
  obtain ⟨cells, hcr, hplace⟩ := (hap _ _ hu hds).place
  obtain ⟨base, cap, rfl, hcap⟩ := sl_shape hx
  have hnone : ds = [] → (Builtin.append_ #[t, t2] ty #[.slice base els.length cap, pw]).run P w = .ok (.slice base els.length cap) w := fun hd => by
    subst hd
    have hce : cells.toList = [] := hcr.inv0
    refine hplace _ _ els.length cap w hcap ?_
    cases base with
    | none => rfl
    | some ad => simp only; rw [hce]; rfl
  cases hde : (ds.isEmpty && isFree tok) with
  | true =>
    rw [hde] at h
    injection h with h
    simp only [Prod.mk.injEq] at h
    obtain ⟨rfl, rfl, rfl⟩ := h
    have : ds = [] := by rw [Bool.and_eq_true] at hde; simpa using hde.1
    exact ⟨.slice base els.length cap, w, g, hnone this, hx, .refl g, hm, .refl B w, fun _ _ _ => rfl⟩
  | false =>
    rw [hde, cnd_false] at h
    by_cases hdn : ds = []
    · have hf : isFree tok = false := by rw [hdn] at hde; simpa using hde
      cases tok with
      | full => cases hf
      | no => cases hf
      | own k' tt =>
        have hrun := hnone hdn
        subst hdn
        unfold appT at h
        simp only [List.append_nil] at h
        obtain ⟨hc2, h⟩ := cnd_some h
        rw [Bool.and_eq_true] at hc2
        injection h with h
        simp only [Prod.mk.injEq] at h
        obtain ⟨rfl, rfl, rfl⟩ := h
        have hnn : n' = n := eq_of_beq hc2.2
        subst hnn
        have hsame := setTk_same hc2.1 hm.srt
        refine ⟨.slice base els.length cap, w, g, hrun, ?_, .refl g, ?_, .refl B w, fun _ _ _ => rfl⟩
        · cases hx with
          | slNil _ _ ht => exact absurd rfl (ht _ _)
          | sl _ _ _ a cap f hs hn h1 h2 hc ht => exact .sl _ _ _ a cap f hs hn h1 h2 hc ht
        · rw [hsame]; exact hm
    have hde : ds.isEmpty = false := by cases ds <;> first | exact absurd rfl hdn | rfl
    have hdl : 0 < ds.length := List.length_pos_iff.2 hdn
    -- the row that comes of growing
    have hgrow : cap < els.length + ds.length → ∃ (newCap : Nat) (vs : Array Value) (w' : World), (Builtin.append_ #[t, t2] ty #[.slice base els.length cap, pw]).run P w = .ok (.slice (some ⟨w.heap.size, 0, none⟩) (els ++ ds).length newCap) w' ∧ w.grownBy w' none ∧ w.heap.size < w'.heap.size ∧ (∀ o, w'.cell? ⟨w.heap.size, o, none⟩ = vs[o]?) ∧
        (∀ o, w'.frozen? ⟨w.heap.size, o, none⟩ = false) ∧ (∀ e ∈ els ++ ds, e.row n = true) ∧ Reps g (flat (els ++ ds)) (vs.toList.take ((els ++ ds).length * n)) ∧ (els ++ ds).length ≤ newCap ∧ vs.size = newCap * n ∧ w'.shape? w.heap.size = some (ety, vs.size) := by
      intro hlt
      have hself : elemsOf n (.sl nil n' els tok) = some els := by
        unfold elemsOf
        simp only
        have : (els.isEmpty || n' == n) = true := by rcases hn' with h | h <;> simp [h]
        rw [this]; rfl
      obtain ⟨_, herows, old, hold, hor⟩ := run_appended (P := P) (w := w.drew) (g := g) (fun b o v hv => hm.held b o v hv) hx hself
      obtain ⟨new, hnr, hgr⟩ := (hap _ _ hu hds).grow
      obtain ⟨newCap, hnc, hrun⟩ := hgr ty _ _ _ old i zv hlt hi hzv hbound hold
      have hrows : ∀ e ∈ els ++ ds, e.row n = true := fun e he => by
        rcases List.mem_append.1 he with he | he
        · exact herows e he
        · exact hdrows e he
      have hl1 : old.size = els.length * n := by have := hor.1; rw [Array.length_toList, flat_len herows] at this; exact this
      have hl2 : new.size = ds.length * n := by have := hnr.1; rw [Array.length_toList, flat_len hdrows] at this; exact this
      let vs : Array Value := old ++ new ++ Builtin.zeroCells zv.cells (newCap - (els.length + ds.length))
      refine ⟨newCap, vs, w.drew.alloc (.cells vs et), by rw [List.length_append]; exact hrun, ?_, by simp, fun o => cell_new w.drew vs et (0, 0) o, fun o => frozen_new w.drew vs et o, hrows, ?_, by rw [List.length_append]; exact hnc, ?_, ?_⟩
      · exact ⟨rfl, rfl, rfl, by simp, fun k hk _ => Below.heap_alloc w.drew _ k hk⟩
      · rw [flat_app]
        have happ := hor.app hnr
        have hl : (old.toList ++ new.toList).length = (els ++ ds).length * n := by simp [hl1, hl2, Nat.add_mul]
        have : vs.toList.take ((els ++ ds).length * n) = old.toList ++ new.toList := by
          simp only [vs, Array.toList_append]
          rw [List.take_append_of_le_length (by omega), List.take_of_length_le (by omega)]
        rw [this]; exact happ
      · simp only [vs, Array.size_append, hl1, hl2, zeroCells_size, hzs]
        rw [← Nat.add_mul, ← Nat.add_mul]
        congr 1
        omega
      · rw [← hety, show elT P t = et by unfold elT; rw [hu]]
        exact shape_new w.drew vs et
    cases tok with
    | no => cases h
    | full =>
      have hcl : cap < els.length + ds.length := by
        cases hx with
        | slNil => simpa using hdl
        | sl _ _ _ ad cap f hs hrow hf1 hf2 hc ht => simp only [Tok.fits] at ht; omega
      obtain ⟨newCap, vs, w', hrun, hgb, hsz, hcell, hfree, hrows, hr, hc1, hc2, hshp⟩ := hgrow hcl
      unfold appT at h
      simp only [List.length_append] at h
      cases mu with
      | false =>
        rw [cond_false] at h
        injection h with h
        simp only [Prod.mk.injEq] at h
        obtain ⟨rfl, rfl, rfl⟩ := h
        obtain ⟨g', h1, h2', h3, h4, h5⟩ := fresh_tok (k := k) (s' := newTk s k (els.length + ds.length) ety) hm hgb hsz hcell (fun o _ => hfree o) hrows hr hc1 hc2 hshp rfl rfl (by rw [List.length_append]; rfl)
        exact ⟨_, w', g', hrun, h1, h2', h3, h4, h5⟩
      | true =>
        rw [cond_true] at h
        injection h with h
        simp only [Prod.mk.injEq] at h
        obtain ⟨rfl, rfl, rfl⟩ := h
        obtain ⟨g', h1, h2', h3, h4, h5⟩ := fresh_row (k := k) (full := false) hm hgb hsz hcell (fun o _ => hfree o) hrows hr hc1 hc2 hshp (by omega) (fun q => by cases q)
        rw [List.length_append] at h1
        exact ⟨_, w', g', by rw [List.length_append] at hrun; exact hrun, h1, h2', h3, h4, h5⟩
    | own k' tt =>
      unfold appT at h
      simp only [List.length_append] at h
      obtain ⟨htk, h⟩ := cnd_some h
      rw [Bool.and_eq_true] at htk
      obtain ⟨htk, hnn⟩ := htk
      have hnn : n' = n := by simpa using hnn
      subst hnn
      injection h with h
      simp only [Prod.mk.injEq] at h
      obtain ⟨rfl, rfl, rfl⟩ := h
      have hmem := hasTk_mem htk
      obtain ⟨bb, ee, lim, hlive⟩ := hm.toks _ hmem
      simp only at hlive
      cases hx with
      | slNil _ _ ht => exact absurd rfl (ht _ _)
      | sl _ _ _ ad cap f hs hrow hf1 hf2 hc ht =>
      simp only [Tok.fits] at ht
      obtain ⟨hoff, ht⟩ := ht
      have hroom := hlive.room
      rw [ht] at hroom; injection hroom with hroom; simp only [Prod.mk.injEq] at hroom
      obtain ⟨hbb, hee, hlim⟩ := hroom
      have hee : ad.off + els.length * n' = ee := by omega
      have hlim : ad.off + cap * n' = lim := by omega
      have hltn : Used s.nx tt := hm.oldT _ hmem
      let s0 : St := { s with lv := s.lv.filter fun e => !(e.1 == k') }
      have hm0 : Mem g s0 w B := hm.drop rfl rfl List.filter_sublist
      have hset : ∀ m, setTk k' tt m ety s.lv = setTk k' tt m ety s0.lv := fun m => setTk_filter hm.srt
      have hother : ∀ e ∈ s0.lv, e.2.1 ≠ tt ∧ ∀ x y, g.room e.2.1 e.2.2.1 ≠ some (bb, x, y) := fun e he => by
        obtain ⟨he1, he2⟩ := List.mem_filter.1 he
        have hk : e.1 ≠ k' := by simpa using he2
        refine ⟨fun q => ?_, fun p q hr => ?_⟩
        · have := hm.tnod e he1 _ hmem q
          exact hk (by rw [this])
        · have := hm.tinj e he1 _ hmem _ _ _ _ _ hr hlive.room
          exact hk (by rw [this])
      by_cases hle : els.length + ds.length ≤ cap
      · -- in place
        have hcl : cells.toList.length = ds.length * n' := by have := hcr.1; rw [flat_len hdrows] at this; exact this
        have hcv : ∀ v ∈ cells.toList, cellV v = true := fun v hv => by
          obtain ⟨q, hq⟩ := List.mem_iff_getElem?.1 hv
          have hlt : q < (flat ds).length := by rw [← hcr.1]; exact (List.getElem?_eq_some_iff.1 hq).1
          have hfq : (flat ds)[q]? = some (flat ds)[q] := List.getElem?_eq_getElem hlt
          obtain ⟨e, h1, h2, _, _⟩ := flat_inv (by omega) hdrows hfq
          have hce := (AV.row_iff.1 (hdrows e (List.mem_of_getElem? h1))).2
          exact (hcr.2 q _ _ hfq hq).cellV (List.all_eq_true.1 hce _ (List.mem_of_getElem? h2))
        have hcm : els.length * n' + ds.length * n' ≤ cap * n' := by rw [← Nat.add_mul]; exact Nat.mul_le_mul_right n' hle
        have hadd : ad.add (els.length * n') = ⟨bb, ee, none⟩ := by rw [add_addr ad hs, hbb, hee]
        obtain ⟨w', hst, hgb, ⟨hshw, hfr⟩, hce⟩ := run_storeCells (P := P) ⟨bb, ee, none⟩ rfl cells.toList 0 w hcv (fun j hj => ⟨hlive.have_ _ (by simp only; omega) (by simp only; omega), hlive.free _ (by simp only; omega) (by simp only; omega)⟩)
        simp only [Nat.add_zero, hcl] at hfr hce
        have hrun := hplace ty (some ad) _ cap w' hle (by simp only; rw [hadd]; exact hst)
        let g1 : G := { g with fz := fun b o => if b = bb ∧ ee ≤ o ∧ o < ee + ds.length * n' then cells[o - ee]? else g.fz b o }
        have hle1 : g.le g1 := {
          fz := fun b o v hv => by
            simp only [g1]
            rw [if_neg (fun q => by have := hlive.quiet o q.2.1; rw [← q.1, hv] at this; cases this)]
            exact hv
          eta := fun _ _ h => h
          room := fun _ _ _ h => h }
        have hm1 : Mem g1 s0 w' B := by
          refine hm0.write (b := bb) ⟨fun y hy n l => hm.apart _ hmem y hy _ _ _ _ _ hlive.room, fun e he x y => (hother e he).2 x y⟩ hgb hle1 rfl rfl (fun b' o hb' => ?_) (fun o v hv => ?_)
          · simp only [g1]; rw [if_neg (fun q => hb' q.1)]
          · simp only [g1] at hv
            rw [hce]
            by_cases hr : ee ≤ o ∧ o < ee + ds.length * n'
            · rw [if_pos ⟨by trivial, hr⟩] at hv
              rw [if_pos hr, Array.getElem?_toList]; exact hv
            · rw [if_neg (fun q => hr q.2)] at hv
              rw [if_neg hr]
              exact hm.held _ _ _ hv
        have hnone : g1.room tt (els.length + ds.length) = none := hlive.last _ (by omega)
        have hle2 := G.tk_le (b := bb) (e := ee + ds.length * n') (lim := lim) hnone
        refine ⟨.slice (some ad) (els.length + ds.length) cap, w', g1.tk tt (els.length + ds.length) bb (ee + ds.length * n') lim, hrun, ?_, hle1.trans hle2, ?_, (Below.refl B w).grown hgb hm.base (fun k hk => by injection hk with hk; subst hk; exact hlive.base), fun b o hb => ?_⟩
        · rw [show Value.slice (some ad) (els.length + ds.length) cap = Value.slice (some ad) (els ++ ds).length cap by rw [List.length_append]]
          have hrows : ∀ e ∈ els ++ ds, e.row n' = true := fun e he => by
            rcases List.mem_append.1 he with he | he
            · exact hrow e he
            · exact hdrows e he
          refine .sl n' _ (.own k' tt) ad cap (fun i j => if i < els.length then f i j else (cells[(i - els.length) * n' + j]?).getD Go.undef) hs hrows (fun i j hi hj => ?_) (fun i j e c he hc2 => ?_) (by rw [List.length_append]; exact hle) ?_
          · rw [List.length_append] at hi
            by_cases hil : i < els.length
            · rw [if_pos hil]
              exact (hle1.trans hle2).fz _ _ _ (hf1 i j hil hj)
            · rw [if_neg hil]
              have e1 : i * n' + j = els.length * n' + ((i - els.length) * n' + j) := by
                rw [← Nat.add_assoc, ← Nat.add_mul]; congr 2; omega
              have hq : (i - els.length) * n' + j < ds.length * n' := by
                calc (i - els.length) * n' + j < (i - els.length) * n' + n' := by omega
                  _ = (i - els.length + 1) * n' := by rw [Nat.add_mul, Nat.one_mul]
                  _ ≤ ds.length * n' := Nat.mul_le_mul_right n' (by omega)
              show g1.fz ad.block (ad.off + (i * n' + j)) = _
              simp only [g1]
              rw [e1, ← Nat.add_assoc, hbb, hee, if_pos (by refine ⟨?_, ?_, ?_⟩ <;> first | trivial | omega), show ee + ((i - els.length) * n' + j) - ee = (i - els.length) * n' + j by omega]
              have hsz : (i - els.length) * n' + j < cells.size := by rw [← Array.length_toList, hcl]; exact hq
              rw [Array.getElem?_eq_getElem hsz]; rfl
          · by_cases hil : i < els.length
            · rw [List.getElem?_append_left hil] at he
              simp only [if_pos hil]
              exact (hf2 i j e c he hc2).mono (hle1.trans hle2)
            · rw [List.getElem?_append_right (by omega)] at he
              simp only [if_neg hil]
              have hfg := flat_get hdrows (i - els.length) j e c he hc2
              have hlt := (List.getElem?_eq_some_iff.1 hfg).1
              rw [← hcr.1] at hlt
              have hcg : cells.toList[(i - els.length) * n' + j]? = some cells.toList[(i - els.length) * n' + j] := List.getElem?_eq_getElem hlt
              rw [← Array.getElem?_toList, hcg]
              rw [Option.getD_some]
              exact (hcr.2 _ c _ hfg hcg).mono (hle1.trans hle2)
          · simp only [Tok.fits]
            unfold G.tk
            simp only [List.length_append, and_self, if_true]
            refine ⟨hoff, ?_⟩
            rw [hbb, Nat.add_mul, show els.length * n' = ee by omega, show cap * n' = lim by omega]
        · refine Mem.setTk hm1 hnone (s' := { s with lv := setTk k' tt (els.length + ds.length) ety s.lv }) (fun _ q => q) hltn ?_ rfl (hset _) (fun y hy n l => hm.apart _ hmem y hy _ _ _ _ _ hlive.room) (fun e he _ => hother e he)
          exact {
            shp := by rw [hshw]; exact hlive.shp
            room := by unfold G.tk; simp only [and_self, if_true]
            base := hlive.base
            size := Nat.lt_of_lt_of_le hlive.size hgb.size
            quiet := fun o ho => by
              show g1.fz bb o = none
              simp only [g1]
              rw [if_neg (by omega)]
              exact hlive.quiet o (by omega)
            have_ := fun o h4 h5 => by
              rw [hce, if_neg (by omega)]
              exact hlive.have_ o (by omega) h5
            free := fun o h4 h5 => by rw [hfr]; exact hlive.free o (by omega) h5
            last := fun l hl => by
              unfold G.tk; simp only; rw [if_neg (by omega)]
              exact hlive.last l (by omega) }
        · show g1.fz b o = g.fz b o
          simp only [g1]
          rw [if_neg (fun q => by have := hlive.base; omega)]
      · obtain ⟨newCap, vs, w', hrun, hgb, hsz, hcell, hfree, hrows, hr, hc1, hc2, hshp⟩ := hgrow (by omega)
        obtain ⟨g', h1, h2', h3, h4, h5⟩ := fresh_tok' (k := k') (t := tt) (s' := { s with lv := setTk k' tt (els.length + ds.length) ety s.lv }) hm0 hgb hsz hcell (fun o _ => hfree o) hrows hr hc1 hc2 hshp rfl (fun _ q => q) hltn (by rw [List.length_append]; exact hset _) (fun l hl => hlive.last l (by rw [List.length_append] at hl; omega)) (fun e he _ => (hother e he).1)
        exact ⟨_, w', g', hrun, h1, h2', h3, h4, h5⟩
end
end Go.Ev
