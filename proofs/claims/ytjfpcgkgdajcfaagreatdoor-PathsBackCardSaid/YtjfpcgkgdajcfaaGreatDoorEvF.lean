/-
  Rows of elements as rows of cells; no condition.
-/
import Derived.Test.YtjfpcgkgdajcfaaGreatDoorEvU
namespace Go.Ev
open Go Go.RowKit

def flat (els : List AV) : List AV := els.flatMap AV.cells
theorem flat_cons (e : AV) (els : List AV) : flat (e :: els) = e.cells ++ flat els := rfl
theorem flat_app (a b : List AV) : flat (a ++ b) = flat a ++ flat b := by simp [flat]
theorem flat_len {n : Nat} : ∀ {els : List AV}, (∀ e ∈ els, e.row n = true) → (flat els).length = els.length * n := by
  intro els
  induction els with
  | nil => intro _; simp [flat]
  | cons e els ih =>
    intro h
    rw [flat_cons, List.length_append, ih (fun x hx => h x (List.mem_cons_of_mem _ hx)), (AV.row_iff.1 (h e List.mem_cons_self)).1, List.length_cons, Nat.add_mul, Nat.one_mul, Nat.add_comm]
theorem flat_get {n : Nat} : ∀ {els : List AV}, (∀ e ∈ els, e.row n = true) → ∀ (i j : Nat) (e c : AV), els[i]? = some e → e.cells[j]? = some c → (flat els)[i * n + j]? = some c := by
  intro els
  induction els with
  | nil => intro _ i j e c h; simp at h
  | cons y els ih =>
    intro h i j e c he hc
    have hy := (AV.row_iff.1 (h y List.mem_cons_self)).1
    rw [flat_cons]
    cases i with
    | zero =>
      simp only [List.getElem?_cons_zero, Option.some.injEq] at he
      subst he
      have := (List.getElem?_eq_some_iff.1 hc).1
      rw [List.getElem?_append_left (by omega), Nat.zero_mul, Nat.zero_add]
      exact hc
    | succ i =>
      rw [List.getElem?_append_right (by rw [Nat.add_mul]; omega), hy, Nat.add_mul, Nat.one_mul]
      have := ih (fun x hx => h x (List.mem_cons_of_mem _ hx)) i j e c (by simpa using he) hc
      rw [show i * n + n + j - n = i * n + j by omega]
      exact this
theorem flat_take {n : Nat} : ∀ {els : List AV} (i : Nat), (∀ e ∈ els, e.row n = true) → (flat els).take (i * n) = flat (els.take i) := by
  intro els
  induction els with
  | nil => intro i _; simp [flat]
  | cons y els ih =>
    intro i h
    have hy := (AV.row_iff.1 (h y List.mem_cons_self)).1
    cases i with
    | zero => simp [flat]
    | succ i =>
      rw [List.take_succ_cons, flat_cons, flat_cons, Nat.add_mul, Nat.one_mul, List.take_append, ← ih i (fun x hx => h x (List.mem_cons_of_mem _ hx)), hy, show i * n + n - n = i * n by omega, List.take_of_length_le (by omega)]
theorem flat_drop {n : Nat} : ∀ {els : List AV} (i : Nat), (∀ e ∈ els, e.row n = true) → (flat els).drop (i * n) = flat (els.drop i) := by
  intro els
  induction els with
  | nil => intro i _; simp [flat]
  | cons y els ih =>
    intro i h
    have hy := (AV.row_iff.1 (h y List.mem_cons_self)).1
    cases i with
    | zero => simp [flat]
    | succ i =>
      rw [List.drop_succ_cons, flat_cons, Nat.add_mul, Nat.one_mul, List.drop_append, ← ih i (fun x hx => h x (List.mem_cons_of_mem _ hx)), hy, show i * n + n - n = i * n by omega, List.drop_of_length_le (by omega), List.nil_append]
theorem flat_set {n : Nat} {els : List AV} {i : Nat} {x : AV} (h : ∀ e ∈ els, e.row n = true) (hi : i < els.length) : flat (els.set i x) = (flat els).take (i * n) ++ x.cells ++ (flat els).drop (i * n + n) := by
  rw [List.set_eq_take_append_cons_drop, if_pos hi, flat_app, flat_cons, flat_take i h, show i * n + n = (i + 1) * n by rw [Nat.add_mul, Nat.one_mul], flat_drop (i + 1) h, List.append_assoc]
theorem flat_inv {n : Nat} (hn : 0 < n) {els : List AV} (h : ∀ e ∈ els, e.row n = true) {q : Nat} {c : AV} (hq : (flat els)[q]? = some c) : ∃ e, els[q / n]? = some e ∧ e.cells[q % n]? = some c ∧ q % n < n ∧ q / n < els.length := by
  have hlt := (List.getElem?_eq_some_iff.1 hq).1
  rw [flat_len h] at hlt
  have hi : q / n < els.length := (Nat.div_lt_iff_lt_mul hn).2 hlt
  have hm := Nat.mod_lt q hn
  have he := List.getElem?_eq_getElem hi
  have hl := (AV.row_iff.1 (h _ (List.getElem_mem hi))).1
  have hc : (els[q / n]).cells[q % n]? = some (els[q / n]).cells[q % n] := List.getElem?_eq_getElem (by omega)
  have := flat_get h (q / n) (q % n) _ _ he hc
  rw [show q / n * n + q % n = q by rw [Nat.mul_comm]; exact Nat.div_add_mod q n, hq] at this
  injection this with this
  exact ⟨_, he, by rw [hc, ← this], hm, hi⟩
theorem fillEls_flat {n : Nat} : ∀ (parts : List (Nat × AV)) (els els' : List AV), (∀ e ∈ els, e.row n = true) → fillEls n els parts = some els' →
    fill (flat els) (parts.map fun p => (some (p.1 * n, n), p.2)) = some (flat els') ∧ (∀ e ∈ els', e.row n = true) ∧ els'.length = els.length := by
  intro parts
  induction parts with
  | nil => intro els els' h hf; simp only [fillEls, Option.some.injEq] at hf; subst hf; exact ⟨rfl, h, rfl⟩
  | cons p parts ih =>
    intro els els' h hf
    obtain ⟨i, x⟩ := p
    unfold fillEls at hf
    obtain ⟨hc, hf⟩ := bif_some hf
    rw [Bool.and_eq_true] at hc
    obtain ⟨hrow, hlt⟩ := hc
    have hlt : i < els.length := by simpa [Nat.blt_eq] using hlt
    have hrows : ∀ e ∈ els.set i x, e.row n = true := fun e he => by
      rcases List.mem_or_eq_of_mem_set he with he | rfl
      · exact h e he
      · exact hrow
    obtain ⟨h1, h2, h3⟩ := ih _ els' hrows hf
    refine ⟨?_, h2, by rw [h3, List.length_set]⟩
    rw [List.map_cons]
    unfold fill
    simp only
    have hle : Nat.ble (i * n + n) (flat els).length = true := by
      rw [flat_len h]
      apply Nat.ble_eq_true_of_le
      calc i * n + n = (i + 1) * n := by rw [Nat.add_mul, Nat.one_mul]
        _ ≤ els.length * n := Nat.mul_le_mul_right n hlt
    rw [hrow, hle, Bool.and_self, cond_true, ← flat_set h hlt]
    exact h1
section
variable {g : G}
/-- A row that never changes: its slice. -/
theorem Rep.fresh {n cap : Nat} {els : List AV} {vs : Array Value} {tok : Tok} {b : Nat} (hrows : ∀ e ∈ els, e.row n = true) (hr : Reps g (flat els) (vs.toList.take (els.length * n))) (hf : ∀ o, o < els.length * n → g.fz b o = vs[o]?)
    (hc : els.length ≤ cap) (ht : tok.fits g ⟨b, 0, none⟩ n els.length cap) : Rep g (.sl false n els tok) (.slice (some ⟨b, 0, none⟩) els.length cap) := by
  have hl := flat_len hrows
  have hvl : els.length * n ≤ vs.size := by
    have := hr.1; rw [hl, List.length_take] at this; have e : vs.toList.length = vs.size := by simp
    omega
  have hlt : ∀ i j, i < els.length → j < n → i * n + j < els.length * n := fun i j hi hj => by
    calc i * n + j < i * n + n := by omega
      _ = (i + 1) * n := by rw [Nat.add_mul, Nat.one_mul]
      _ ≤ els.length * n := Nat.mul_le_mul_right n hi
  refine .sl n els tok ⟨b, 0, none⟩ cap (fun i j => (vs[i * n + j]?).getD Go.undef) rfl hrows (fun i j hi hj => ?_) (fun i j e c he hc2 => ?_) hc ht
  · rw [Nat.zero_add, hf _ (hlt i j hi hj), Array.getElem?_eq_getElem (by have := hlt i j hi hj; omega)]
    rfl
  · have hi := (List.getElem?_eq_some_iff.1 he).1
    have hj : j < n := by rw [← (AV.row_iff.1 (hrows e (List.mem_of_getElem? he))).1]; exact (List.getElem?_eq_some_iff.1 hc2).1
    have hq := hlt i j hi hj
    have hv : vs[i * n + j]? = some vs[i * n + j] := Array.getElem?_eq_getElem (by omega)
    rw [hv]
    exact hr.2 (i * n + j) c _ (flat_get hrows i j e c he hc2) (by rw [List.getElem?_take, if_pos hq, Array.getElem?_toList, hv]; rfl)
end
end Go.Ev
