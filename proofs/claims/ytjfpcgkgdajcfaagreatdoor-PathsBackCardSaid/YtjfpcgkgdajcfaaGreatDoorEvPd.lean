/-
  Plain laws for what the executor prints; no condition but what each says.
-/
import Derived.Test.YtjfpcgkgdajcfaaGreatDoorEvPc
namespace Go.Ev
open Go
theorem w64_id {x : Int} (h1 : -9223372036854775808 ≤ x) (h2 : x ≤ 9223372036854775807) : w64 x = x := by
  unfold w64 IntKind.wrap
  simp [IntKind.bits, IntKind.signed]
  omega
@[simp] theorem asrt_true {α : Type} (x : Option α) : asrt true x = x := rfl
/-- A point. -/
def encP (p : Int × Int) : AV := .agg [.int .i64 p.1, .int .i64 p.2]
theorem getD_map (l : List (Int × Int)) (i : Nat) : (l.map encP).getD i .undef = if i < l.length then encP (l.getD i (0, 0)) else .undef := by
  split
  · rename_i h
    simp [List.getD_eq_getElem?_getD, h]
  · rename_i h
    simp [List.getD_eq_getElem?_getD, h]
@[simp] theorem eI0 (l : List (Int × Int)) (i : Nat) : eI (l.map encP) i 0 = (l.getD i (0, 0)).1 := by
  unfold eI
  rw [getD_map]
  split
  · rfl
  · rename_i h
    rw [List.getD_eq_getElem?_getD, List.getElem?_eq_none (by omega)]; rfl
@[simp] theorem eI1 (l : List (Int × Int)) (i : Nat) : eI (l.map encP) i 1 = (l.getD i (0, 0)).2 := by
  unfold eI
  rw [getD_map]
  split
  · rfl
  · rename_i h
    rw [List.getD_eq_getElem?_getD, List.getElem?_eq_none (by omega)]; rfl
@[simp] theorem okP (l : List (Int × Int)) (i : Nat) : okE true [.int .i64, .int .i64] (l.map encP) i = decide (i < l.length) := by
  unfold okE
  rw [getD_map]
  split
  · rename_i h; rw [decide_eq_true h]; rfl
  · rename_i h; rw [decide_eq_false h]; rfl
@[simp] theorem cleanP (l : List (Int × Int)) : AV.cleanL (l.map encP) = true := by
  induction l with
  | nil => rfl
  | cons a l ih => simp only [List.map_cons, AV.cleanL, ih, Bool.and_true]; rfl
theorem clean_app (a b : List AV) : AV.cleanL (a ++ b) = (AV.cleanL a && AV.cleanL b) := by
  induction a with
  | nil => rfl
  | cons x a ih => simp only [List.cons_append, AV.cleanL, ih, Bool.and_assoc]
theorem bif_decide {α : Type} {p : Prop} [Decidable p] (a b : α) : (bif decide p then a else b) = if p then a else b := by
  by_cases h : p <;> simp [h]
theorem room_ok {n a b : Nat} (h : n ≤ 1000000) (ha : a ≤ 1000000) (hb : b ≤ 1000) : decide ((n + a + 1) * (b + 1) ≤ 2 ^ 36) = true := by
  have h1 : (n + a + 1) * (b + 1) ≤ 2000001 * 1001 := Nat.mul_le_mul (by omega) (by omega)
  exact decide_eq_true (Nat.le_trans h1 (by decide))
theorem len1 (l : List AV) (x : AV) : (l ++ [x]).length = l.length + 1 := List.length_append
theorem len2 (l : List AV) (x y : AV) : (l ++ [x, y]).length = l.length + 2 := List.length_append
end Go.Ev
