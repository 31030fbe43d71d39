/-
  The contracts that the evaluator leans on hold: strconv.Itoa, Atoi, strings.Cut, Trim, Repeat, strings.Builder's copy check and String; conditions: what the row lists.
-/
import Derived.Test.YtjfpcgkgdajcfaaGreatDoorBaseE
import Derived.Test.YtjfpcgkgdajcfaaGreatDoorEvStr
import Derived.Test.YtjfpcgkgdajcfaaGreatDoorShelf
import Derived.Lib.LaidTab
import Derived.WalkSmall
import Derived.Shelf.SlSorted.Search
open Go Go.Ev Go.Proofs Go.RowKit
namespace Go.Proofs.YtjfpcgkgdajcfaaGreatDoor
/-- What the calls lean on, of what the row lists. -/
structure LaidOK (w : World) : Prop where
  tab : Lib.TabIs Tryz.prog w "internal/strconv.uint64pow10" .u64 Lib.pow10Tab
  mxl : ∃ m, w.cell? ⟨0, 0, none⟩ = some (.int .i64 m)
theorem LaidOK.old {W0 w : World} {B : Nat} (h : LaidOK W0) (ho : Old W0 w B) : LaidOK w :=
  ⟨ho.var h.tab, let ⟨m, hm⟩ := h.mxl; ⟨m, ho.cell hm⟩⟩
section
variable {g : G} {vals : Array Value}
theorem reps1 {x : AV} (h : Reps g [x] vals.toList) : ∃ v, vals = #[v] ∧ Rep g x v := by
  obtain ⟨y, l, hv, hr, h2⟩ := h.inv
  obtain rfl := h2.inv0
  exact ⟨y, by apply Array.ext'; exact hv, hr⟩
theorem reps2 {x y : AV} (h : Reps g [x, y] vals.toList) : ∃ v u, vals = #[v, u] ∧ Rep g x v ∧ Rep g y u := by
  obtain ⟨v, l, hv, hr, h2⟩ := h.inv
  obtain ⟨u, l', hu, hr', h3⟩ := h2.inv
  obtain rfl := h3.inv0
  subst hu
  exact ⟨v, u, by apply Array.ext'; exact hv, hr, hr'⟩
theorem rep_str {l : List UInt8} {v : Value} (h : Rep g (.str l) v) : ∃ s : ByteArray, v = .string s ∧ s.data.toList = l := by
  cases h with
  | str _ s h => exact ⟨s, rfl, h⟩
theorem rep_int {k : IntKind} {n : Int} {v : Value} (h : Rep g (.int k n) v) : v = .int k n := by
  cases h; rfl
end
theorem size_list (s : ByteArray) : s.data.toList.length = s.size := by simp
theorem ext_ok {W0 : World} (hL : LaidOK W0) : ExtOk Tryz.prog W0 CC := by
  intro f hh args x hx ha hok g w vals hold hheld hr hc
  have hw := hL.old hold
  unfold CC at hx
  simp only at hx
  split at hx
  · -- Itoa
    injection hx with hx; subst hx
    unfold itoaA at ha
    split at ha
    · rename_i a
      obtain ⟨hd, ha⟩ := cnd_some ha
      injection ha with ha; subst ha
      have hd := of_decide_eq_true hd
      obtain ⟨v, rfl, hv⟩ := reps1 hr
      obtain rfl := rep_int hv
      refine ext_of_below (v := .string ⟨(Lib.itoa a).toArray⟩) ?_ hheld (.str _ _ rfl) rfl
      refine (Tryz.strconv_Itoa a hd.1 hd.2 w hw.tab).mono ?_
      rintro e w' ⟨rfl, k, os, rfl⟩
      exact ⟨rfl, below_grown_sl _ _ _ _ (Nat.le_refl _)⟩
    · cases ha
  · -- Atoi
    injection hx with hx; subst hx
    unfold atoiA at ha
    split at ha
    · rename_i l
      obtain ⟨hd, ha⟩ := cnd_some ha
      have hd := of_decide_eq_true hd
      split at ha
      · rename_i n hn
        injection ha with ha; subst ha
        obtain ⟨v, rfl, hv⟩ := reps1 hr
        obtain ⟨s, rfl, rfl⟩ := rep_str hv
        refine ext_of_below (v := .tuple #[.int .i64 n, .nilIface]) ?_ hheld (Reps.tup (.cons (.int _ _) (.cons (.val _) (.nil _)))) rfl
        refine (Tryz.strconv_Atoi_ok s (by rw [size_list] at hd; exact hd) n hn w).mono ?_
        rintro e w' ⟨rfl, hw⟩
        refine ⟨rfl, ?_⟩
        rcases hw with rfl | ⟨t, rfl⟩
        · exact Below.refl _ _
        · exact (Below.refl _ _).trans ⟨rfl, rfl, rfl, by rw [Lib.bytesWorld_size]; omega, fun i hi => Lib.bytesWorld_at_old w _ _ i (by omega)⟩
      · cases ha
    · cases ha
  · -- Cut
    injection hx with hx; subst hx
    unfold cutA at ha
    split at ha
    · rename_i a b
      obtain ⟨hd, ha⟩ := cnd_some ha
      injection ha with ha; subst ha
      have hd := of_decide_eq_true hd
      obtain ⟨v, u, rfl, hv, hu⟩ := reps2 hr
      obtain ⟨s, rfl, rfl⟩ := rep_str hv
      obtain ⟨t, rfl, rfl⟩ := rep_str hu
      obtain ⟨m, hm⟩ := hw.mxl
      refine ext_of_below (v := .tuple #[.string ⟨(Lib.cut s.data.toList t.data.toList).1.toArray⟩, .string ⟨(Lib.cut s.data.toList t.data.toList).2.1.toArray⟩, .bool (Lib.cut s.data.toList t.data.toList).2.2]) ?_ hheld (Reps.tup (.cons (.str _ _ rfl) (.cons (.str _ _ rfl) (.cons (.bool _) (.nil _))))) rfl
      refine (Tryz.strings_Cut s t m w (by rw [size_list] at hd; exact hd) hm).mono ?_
      rintro e w' ⟨rfl, n, rfl⟩
      exact ⟨rfl, below_drewN (Below.refl _ _) n⟩
    · cases ha
  · -- Trim
    injection hx with hx; subst hx
    unfold trimA at ha
    split at ha
    · rename_i a b
      obtain ⟨hd, ha⟩ := cnd_some ha
      injection ha with ha; subst ha
      rw [Bool.and_eq_true] at hd
      have hd1 := of_decide_eq_true hd.1
      obtain ⟨v, u, rfl, hv, hu⟩ := reps2 hr
      obtain ⟨s, rfl, rfl⟩ := rep_str hv
      obtain ⟨t, rfl, rfl⟩ := rep_str hu
      refine ext_of_below (v := .string ⟨(Lib.trimS s.data.toList t.data.toList).toArray⟩) ?_ hheld (.str _ _ rfl) rfl
      exact Tryz.strings_Trim_laid s t w (by rw [← size_list]; exact hd1.1) (by rw [← size_list]; exact hd1.2) (fun j b hb => by
        have := List.all_eq_true.1 hd.2 b (List.mem_of_getElem? hb)
        exact of_decide_eq_true this)
    · cases ha
  · -- Repeat
    injection hx with hx; subst hx
    unfold repeatA at ha
    split at ha
    · rename_i a n
      obtain ⟨hd, ha⟩ := cnd_some ha
      injection ha with ha; subst ha
      have hd := of_decide_eq_true hd
      obtain ⟨v, u, rfl, hv, hu⟩ := reps2 hr
      obtain ⟨s, rfl, rfl⟩ := rep_str hv
      obtain rfl := rep_int hu
      refine ext_of_below (v := .string ⟨(Lib.repeatL s.data.toList n.toNat).toArray⟩) ?_ hheld (.str _ _ rfl) rfl
      obtain ⟨c, rfl⟩ := Int.eq_ofNat_of_zero_le hd.1
      rw [Int.toNat_natCast] at hd ⊢
      exact Tryz.strings_Repeat s c w (by omega) (by rw [← size_list]; exact hd.2.2)
    · cases ha
  · cases hx
/-- The laying of the copy check (the shelf's tool wants a type named that the body does not name). -/
def lays240_ren : Go.Shelf.Ren := ⟨fun | 240 => 89 | 276 => 107 | n => n, fun | 70 => 77 | 9 => 9 | 0 => 0 | 4 => 4 | 20 => 20 | 72 => 80 | 164 => 123 | 37 => 78 | 5 => 5 | n => n, fun | n => n⟩
theorem lays240 : Lays.n240 Tryz.prog lays240_ren := {
  mixed := by kernel_rfl
  f240 := Tryz.func89.trans (congrArg some (by kernel_rfl))
  f276 := Tryz.func107.trans (congrArg some (by kernel_rfl))
  t0 := Tryz.underlying0
  a0 := Tryz.isAgg0
  z0 := Tryz.sizeOf0
  v0 := Tryz.zeroValue0
  t4 := Tryz.underlying4
  a4 := Tryz.isAgg4
  z4 := Tryz.sizeOf4
  v4 := Tryz.zeroValue4
  t9 := Tryz.underlying9
  a9 := Tryz.isAgg9
  z9 := Tryz.sizeOf9
  v9 := Tryz.zeroValue9
  t20 := Tryz.underlying20
  a20 := Tryz.isAgg20
  z20 := Tryz.sizeOf20
  v20 := Tryz.zeroValue20
  t70 := Tryz.underlying77
  a70 := Tryz.isAgg77
  z70 := Tryz.sizeOf77
  v70 := Tryz.zeroValue77
  t72 := Tryz.underlying80
  a72 := Tryz.isAgg80
  z72 := Tryz.sizeOf80
  v72 := Tryz.zeroValue80
  t164 := Tryz.underlying123
  a164 := Tryz.isAgg123
  z164 := Tryz.sizeOf123
  v164 := Tryz.zeroValue123 }
theorem x72 : Builder.X72 Tryz.prog lays240_ren := { sizeBuilder := by kernel_rfl, liesBuilder := by kernel_rfl }
theorem extD_ok (W0 : World) : ExtDOk Tryz.prog W0 CC := by
  intro f hh args s x s' hx ha hok g w B vals hold hm hr
  unfold CC at hx
  simp only at hx
  split at hx
  · injection hx with hx; subst hx
    exact copyX_ok (fun b w h1 h2 h3 => Any.Builder_copyCheck_fresh lays240 x72 b w h1 h2 h3) (fun b w h1 => Any.Builder_copyCheck_used lays240 x72 b w h1) ha hm hr
  · injection hx with hx; subst hx
    exact stringX_ok (fun b w h1 => Any.String_nil Tryz.lays169 Tryz.Builder_Extra_169 b w h1) (fun b q cap l w h1 h2 h3 h4 h5 h6 => Any.String_row Tryz.lays169 Tryz.Builder_Extra_169 b q cap l w h1 h2 h3 h4 h5 h6) ha hm hr
  · cases hx
theorem catch_ok : CatchOk Tryz.prog CC := by
  intro f t h
  cases h
end Go.Proofs.YtjfpcgkgdajcfaaGreatDoor
