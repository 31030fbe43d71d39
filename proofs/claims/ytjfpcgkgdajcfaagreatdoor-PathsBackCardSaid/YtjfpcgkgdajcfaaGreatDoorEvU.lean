/-
  The operations that do not look at the call's own state are sound: comparisons; no condition.
-/
import Derived.Test.YtjfpcgkgdajcfaaGreatDoorEvT
namespace Go.Ev
open Go Go.RowKit

theorem bytes_beq (a b : ByteArray) : (a == b) = (a.data.toList == b.data.toList) := by
  show (a.data == b.data) = _
  rw [Bool.eq_iff_iff, beq_iff_eq, beq_iff_eq]
  exact ⟨fun h => by rw [h], fun h => Array.ext' h⟩
theorem eqCells_nil1 (k : CK) (ks : List CK) (l : List AV) : eqCells (k :: ks) [] l = none := by
  cases k <;> rfl
theorem eqCells_nil2 (k : CK) (ks : List CK) (a : AV) (l : List AV) : eqCells (k :: ks) (a :: l) [] = none := by
  cases k <;> cases a <;> rfl
section
variable {P : Program} {w : World} {g : G} {x : AV}
theorem run_program (P : Program) (w : World) : (program).run P w = .ok P w := rfl
theorem run_forIn_eq (body : Field → (Option Bool × Unit) → Sem (ForInStep (Option Bool × Unit))) : ∀ (fs : List Field) (rs : List Bool), fs.length = rs.length →
    (∀ (i : Nat) (f : Field) (r : Bool) (s : Option Bool × Unit), fs[i]? = some f → rs[i]? = some r → (body f s).run P w = .ok (if r then .yield (none, ()) else .done (some false, ())) w) →
    (forIn fs (none, ()) body).run P w = .ok (if rs.all id then (none, ()) else (some false, ())) w := by
  intro fs
  induction fs with
  | nil => intro rs hl h; cases rs with
    | nil => rfl
    | cons r rs => simp at hl
  | cons f fs ih =>
    intro rs hl h
    cases rs with
    | nil => simp at hl
    | cons r rs =>
    rw [List.forIn_cons, run_bind, h 0 f r _ rfl rfl]
    cases r with
    | false => rfl
    | true =>
      simp only [if_true]
      rw [ih rs (by simpa using hl) (fun i f r s hf hr => h (i + 1) f r s (by simpa using hf) (by simpa using hr))]
      simp
theorem ck_isAgg {t : TypeId} {k : CK} (h : ckOf P t = some k) : (isAgg t).run P w = .ok false w := by
  unfold ckOf at h
  unfold isAgg
  rw [run_bind]
  split at h <;> first | (cases h; done) | (rename_i hu; rw [run_underlying hu]; rfl) | skip
theorem run_part1 {t : TypeId} {k : CK} {xs : Array Value} {o : Nat} {v : Value} (h : ckOf P t = some k) (hv : xs[o]? = some v) : (part t xs o).run P w = .ok v w := by
  unfold part
  rw [run_bind, ck_isAgg h]
  simp only [Bool.false_eq_true, if_false, hv]
  rfl
/-- One field. -/
theorem run_eq1 {t : TypeId} {d : Nat} {xs ys : Array Value} {o : Nat} {a b : AV} {ks : List CK} {k : CK} {l l' : List AV} {r : Bool} (hk : ckOf P t = some k) (ha : ∀ v, xs[o]? = some v → Rep g a v) (hb : ∀ v, ys[o]? = some v → Rep g b v) (hx : o < xs.size) (hy : o < ys.size)
    (h : eqCells (k :: ks) (a :: l) (b :: l') = some r) : ∃ r1 r2, (∃ v v', xs[o]? = some v ∧ ys[o]? = some v' ∧ (Op.equalIn (d + 1) t v v').run P w = .ok r1 w) ∧ eqCells ks l l' = some r2 ∧ r = (r1 && r2) := by
  have hav := ha _ (Array.getElem?_eq_getElem hx)
  have hbv := hb _ (Array.getElem?_eq_getElem hy)
  unfold eqCells at h
  unfold ckOf at hk
  split at h
  · rename_i e; cases e
  · rename_i ks' k1 a' l1 k2 b' l2 e1 e2 e3
    injection e1 with e1 e1'; injection e2 with e2 e2'; injection e3 with e3 e3'
    subst e1; subst e1'; subst e2; subst e2'; subst e3; subst e3'
    obtain ⟨hkk, h⟩ := bif_some h
    rw [Option.map_eq_some_iff] at h
    obtain ⟨r2, hr2, rfl⟩ := h
    have hkk : k1 = k2 := by simpa using hkk
    subst hkk
    refine ⟨a' == b', r2, ⟨_, _, Array.getElem?_eq_getElem hx, Array.getElem?_eq_getElem hy, ?_⟩, hr2, rfl⟩
    rw [int_rep hav, int_rep hbv]
    split at hk <;> first | (cases hk; done) | skip
    rename_i hu
    unfold Op.equalIn
    rw [run_bind, run_underlying hu]
    simp only [if_true]
    rfl
  · rename_i ks' a' l1 b' l2 e1 e2 e3
    injection e1 with e1 e1'; injection e2 with e2 e2'; injection e3 with e3 e3'
    subst e1; subst e1'; subst e2; subst e2'; subst e3; subst e3'
    rw [Option.map_eq_some_iff] at h
    obtain ⟨r2, hr2, rfl⟩ := h
    refine ⟨a' == b', r2, ⟨_, _, Array.getElem?_eq_getElem hx, Array.getElem?_eq_getElem hy, ?_⟩, hr2, rfl⟩
    rw [bool_rep hav, bool_rep hbv]
    split at hk <;> first | (cases hk; done) | skip
    rename_i hu
    unfold Op.equalIn
    rw [run_bind, run_underlying hu]
    rfl
  · rename_i ks' a' l1 b' l2 e1 e2 e3
    injection e1 with e1 e1'; injection e2 with e2 e2'; injection e3 with e3 e3'
    subst e1; subst e1'; subst e2; subst e2'; subst e3; subst e3'
    rw [Option.map_eq_some_iff] at h
    obtain ⟨r2, hr2, rfl⟩ := h
    refine ⟨a' == b', r2, ⟨_, _, Array.getElem?_eq_getElem hx, Array.getElem?_eq_getElem hy, ?_⟩, hr2, rfl⟩
    obtain ⟨s, hs, rfl⟩ := str_rep hav
    obtain ⟨s', hs', rfl⟩ := str_rep hbv
    rw [hs, hs', ← bytes_beq]
    split at hk <;> first | (cases hk; done) | skip
    rename_i hu
    unfold Op.equalIn
    rw [run_bind, run_underlying hu]
    rfl
  · cases h
theorem eqCells_rows {d : Nat} {xs ys : Array Value} : ∀ (fs : List Field) (ks : List CK) (i : Nat) (l l' : List AV) (r : Bool), ckFields P i fs = some ks → xs.size = i + l.length → ys.size = i + l'.length →
    (∀ j a v, l[j]? = some a → xs[i + j]? = some v → Rep g a v) → (∀ j a v, l'[j]? = some a → ys[i + j]? = some v → Rep g a v) → eqCells ks l l' = some r →
    ∃ rs : List Bool, fs.length = rs.length ∧ rs.all id = r ∧ ∀ (j : Nat) (f : Field) (b : Bool), fs[j]? = some f → rs[j]? = some b →
      f.name ≠ "_" ∧ ∃ v v', (part f.type xs f.offset).run P w = .ok v w ∧ (part f.type ys f.offset).run P w = .ok v' w ∧ (Op.equalIn (d + 1) f.type v v').run P w = .ok b w := by
  intro fs
  induction fs with
  | nil =>
    intro ks i l l' r hk _ _ _ _ h
    simp only [ckFields] at hk; injection hk with hk; subst hk
    cases l <;> cases l' <;> first | (cases h; done) | skip
    simp only [eqCells] at h; injection h with h; subst h
    exact ⟨[], rfl, rfl, fun j f b hf => by simp at hf⟩
  | cons f fs ih =>
    intro ks i l l' r hk hx hy hl hl' h
    unfold ckFields at hk
    obtain ⟨hc, hk⟩ := bif_some hk
    rw [Option.bind_eq_some_iff] at hk
    obtain ⟨k, hk1, hk⟩ := hk
    rw [Option.map_eq_some_iff] at hk
    obtain ⟨ks', hks, rfl⟩ := hk
    rw [Bool.and_eq_true] at hc
    obtain ⟨hname, hoff⟩ := hc
    have hname : f.name ≠ "_" := by simpa using hname
    have hoff : f.offset = i := by simpa using hoff
    cases l with
    | nil => rw [eqCells_nil1] at h; cases h
    | cons a l =>
    cases l' with
    | nil => rw [eqCells_nil2] at h; cases h
    | cons b l' =>
    simp only [List.length_cons] at hx hy
    obtain ⟨r1, r2, ⟨v, v', hv, hv', hrun⟩, h2, rfl⟩ := run_eq1 (w := w) (d := d) (xs := xs) (ys := ys) (o := i) hk1 (fun v hv => hl 0 a v rfl hv) (fun v hv => hl' 0 b v rfl hv) (by omega) (by omega) h
    obtain ⟨rs, hlen, hall, hrows⟩ := ih ks' (i + 1) l l' r2 hks (by omega) (by omega) (fun j a v ha hv => hl (j + 1) a v (by simpa using ha) (by rw [show i + (j + 1) = i + 1 + j by omega]; exact hv)) (fun j a v ha hv => hl' (j + 1) a v (by simpa using ha) (by rw [show i + (j + 1) = i + 1 + j by omega]; exact hv)) h2
    refine ⟨r1 :: rs, by simp [hlen], by simp [hall], fun j f' b' hf hb => ?_⟩
    cases j with
    | zero =>
      simp only [List.getElem?_cons_zero, Option.some.injEq] at hf hb
      subst hf; subst hb
      exact ⟨hname, v, v', by rw [hoff]; exact run_part1 hk1 hv, by rw [hoff]; exact run_part1 hk1 hv', hrun⟩
    | succ j => exact hrows j f' b' (by simpa using hf) (by simpa using hb)
theorem run_equal_struct {t : TypeId} {ks : List CK} {l l' : List AV} {xs ys : Array Value} {r : Bool} (hp : plainSt P t = some ks) (hx : Reps g l xs.toList) (hy : Reps g l' ys.toList) (h : eqCells ks l l' = some r) :
    (Op.equal t (.agg xs) (.agg ys)).run P w = .ok r w ∧ P.eqGuardType P.depth t = false := by
  unfold plainSt at hp
  split at hp
  · rename_i fs hu
    obtain ⟨hc, hp⟩ := bif_some hp
    rw [Bool.and_eq_true] at hc
    have hs : P.stoodInHeld t = false := by simpa using hc.1
    have hg : P.eqGuardType P.depth t = false := by simpa using hc.2
    have l1 : xs.size = l.length := by have := hx.1; rw [Array.length_toList] at this; exact this
    have l2 : ys.size = l'.length := by have := hy.1; rw [Array.length_toList] at this; exact this
    obtain ⟨rs, hlen, hall, hrows⟩ := eqCells_rows (w := w) (g := g) (d := 9998) (xs := xs) (ys := ys) fs.toList ks 0 l l' r hp (by omega) (by omega) (fun j a v ha hv => hx.2 j a v ha (by rw [Nat.zero_add] at hv; simpa using hv)) (fun j a v ha hv => hy.2 j a v ha (by rw [Nat.zero_add] at hv; simpa using hv)) h
    refine ⟨?_, hg⟩
    unfold Op.equal
    rw [show Op.maxDepth = 9999 + 1 from rfl]
    unfold Op.equalIn
    rw [run_bind, run_underlying hu]
    simp only
    rw [run_bind, run_program]
    simp only [hs, Bool.false_eq_true, if_false]
    rw [run_bind, ← Array.forIn_toList, run_forIn_eq _ fs.toList rs hlen (fun i f b s hf hb => by
      obtain ⟨hn, v, v', h1, h2, h3⟩ := hrows i f b hf hb
      rw [if_pos hn, run_bind, h1]
      simp only
      rw [run_bind, h2]
      simp only
      rw [run_bind, h3]
      cases b <;> rfl)]
    rw [hall]
    cases r <;> rfl
  · cases hp
theorem nilK_sl {t : TypeId} (h : nilK P t = .sl) : ∃ e, P.underlying t = some (.slice e) := by
  unfold nilK at h; split at h <;> first | (cases h; done) | exact ⟨_, by assumption⟩
theorem nilK_pt {t : TypeId} (h : nilK P t = .pt) : ∃ e, P.underlying t = some (.pointer e) := by
  unfold nilK at h; split at h <;> first | (cases h; done) | exact ⟨_, by assumption⟩
theorem nilK_fn {t : TypeId} (h : nilK P t = .fn) : ∃ a b c, P.underlying t = some (.func a b c) := by
  unfold nilK at h; split at h <;> first | (cases h; done) | exact ⟨_, _, _, by assumption⟩
theorem nilK_ifc {t : TypeId} (h : nilK P t = .ifc) : ∃ e, P.underlying t = some (.interface e) := by
  unfold nilK at h; split at h <;> first | (cases h; done) | exact ⟨_, by assumption⟩
/-- What a guard lets by. -/
def plainPair : Value → Value → Bool
  | .nilIface, .nilIface => false
  | .agg _, .agg _ => false
  | _, _ => true
theorem run_eqGuard {op : BinOp} {t : TypeId} {X Y : Operand} {a b : Value} (h : plainPair a b = true ∨ P.eqGuardType P.depth t = false ∧ ∃ xs ys, a = .agg xs ∧ b = .agg ys) : (eqGuard op t X Y a b).run P w = .ok () w := by
  have key : (match a, b with
    | .nilIface, .nilIface => (do
      if (X matches .const _) || (Y matches .const _) then return
      if ← Op.eqGuardIn Op.maxDepth t a b then unsupported (.noEntry "binop/eql: two nil values of an interface type with methods, neither of them the literal nil") : Sem Unit)
    | .agg _, .agg _ => do
      if !(← program).eqGuardType (← program).depth t then return
      if ← Op.eqGuardIn Op.maxDepth t a b then unsupported (.noEntry "binop/eql: two nil values of an interface type with methods, in a part of a struct or an array")
    | _, _ => pure ()).run P w = .ok () w := by
    rcases h with h | ⟨h, xs, ys, rfl, rfl⟩
    · cases a <;> cases b <;> first | rfl | (cases h; done)
    · simp only
      rw [run_bind, run_program]
      simp only
      rw [run_bind, run_program]
      simp only [h, Bool.not_false, if_true]
      rfl
  unfold eqGuard
  cases op <;> first | rfl | exact key
theorem y_eqV {t : TypeId} {a b : AV} {va vb : Value} {r : Bool} (ha : Rep g a va) (hb : Rep g b vb) (h : eqV P t a b = some r) :
    (Op.equal t va vb).run P w = .ok r w ∧ (plainPair va vb = true ∨ P.eqGuardType P.depth t = false ∧ ∃ xs ys, va = .agg xs ∧ vb = .agg ys) := by
  have unf : ∀ (t : TypeId) (a b : Value), Op.equal t a b = Op.equalIn (9999 + 1) t a b := fun _ _ _ => rfl
  unfold eqV at h
  split at h
  · obtain ⟨hb', h⟩ := bif_some h
    injection h with h; subst h
    obtain rfl := bool_rep ha
    obtain rfl := bool_rep hb
    have hu : P.underlying t = some .bool := by
      unfold isBool at hb'
      split at hb'
      · assumption
      · cases hb'
    refine ⟨?_, .inl rfl⟩
    rw [unf]
    unfold Op.equalIn
    rw [run_bind, run_underlying hu]
    rfl
  · rw [Option.bind_eq_some_iff] at h
    obtain ⟨ks, hk, h⟩ := h
    obtain ⟨xs, rfl, hx⟩ := ha.reps
    obtain ⟨ys, rfl, hy⟩ := hb.reps
    obtain ⟨h1, h2⟩ := run_equal_struct (w := w) hk hx hy h
    exact ⟨h1, .inr ⟨h2, xs, ys, rfl, rfl⟩⟩
  · split at h <;> first | (cases h; done) | skip
    rename_i hk
    obtain ⟨e, hu⟩ := nilK_sl hk
    injection h with h; subst h
    have hv : vb = .slice none 0 0 := by cases hb; rfl
    subst hv
    refine ⟨?_, .inl (by cases ha <;> rfl)⟩
    rw [unf]
    unfold Op.equalIn
    rw [run_bind, run_underlying hu]
    cases ha <;> rfl
  · split at h <;> first | (cases h; done) | skip
    rename_i hk
    obtain ⟨e, hu⟩ := nilK_sl hk
    injection h with h; subst h
    have hv : vb = .slice none 0 0 := by cases hb; rfl
    subst hv
    refine ⟨?_, .inl (by cases ha; rfl)⟩
    rw [unf]
    unfold Op.equalIn
    rw [run_bind, run_underlying hu]
    cases ha; rfl
  · split at h <;> first | (cases h; done) | skip
    rename_i hk
    obtain ⟨e, hu⟩ := nilK_pt hk
    injection h with h; subst h
    have hv : vb = .pointer none := by cases hb; rfl
    subst hv
    refine ⟨?_, .inl (by cases ha; rfl)⟩
    rw [unf]
    unfold Op.equalIn
    rw [run_bind, run_underlying hu]
    cases ha; rfl
  · split at h <;> first | (cases h; done) | skip
    rename_i hk
    obtain ⟨e, hu⟩ := nilK_pt hk
    injection h with h; subst h
    have hv : vb = .pointer none := by cases hb; rfl
    subst hv
    refine ⟨?_, .inl (by cases ha; rfl)⟩
    rw [unf]
    unfold Op.equalIn
    rw [run_bind, run_underlying hu]
    cases ha; rfl
  · split at h <;> first | (cases h; done) | skip
    rename_i hk
    obtain ⟨e, hu⟩ := nilK_pt hk
    injection h with h; subst h
    have hv : vb = .pointer none := by cases hb; rfl
    have hv' : va = .pointer none := by cases ha; rfl
    subst hv; subst hv'
    refine ⟨?_, .inl rfl⟩
    rw [unf]
    unfold Op.equalIn
    rw [run_bind, run_underlying hu]
    rfl
  · split at h <;> first | (cases h; done) | skip
    rename_i hk
    obtain ⟨a1, a2, a3, hu⟩ := nilK_fn hk
    injection h with h; subst h
    have hv : vb = .nilFunc := by cases hb; rfl
    subst hv
    refine ⟨?_, .inl (by cases ha; rfl)⟩
    rw [unf]
    unfold Op.equalIn
    rw [run_bind, run_underlying hu]
    cases ha; rfl
  · split at h <;> first | (cases h; done) | skip
    rename_i hk
    obtain ⟨a1, a2, a3, hu⟩ := nilK_fn hk
    injection h with h; subst h
    have hv : vb = .nilFunc := by cases hb; rfl
    have hv' : va = .nilFunc := by cases ha; rfl
    subst hv; subst hv'
    refine ⟨?_, .inl rfl⟩
    rw [unf]
    unfold Op.equalIn
    rw [run_bind, run_underlying hu]
    rfl
  · split at h <;> first | (cases h; done) | skip
    rename_i hk
    obtain ⟨e, hu⟩ := nilK_ifc hk
    injection h with h; subst h
    have hv : vb = .nilIface := by cases hb; rfl
    subst hv
    refine ⟨?_, .inl (by cases ha; rfl)⟩
    rw [unf]
    unfold Op.equalIn
    rw [run_bind, run_underlying hu]
    cases ha; rfl
  · cases h
end
end Go.Ev
