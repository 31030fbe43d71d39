/-
  The operations on the call's own state are sound: variables; no condition.
-/
import Derived.Test.YtjfpcgkgdajcfaaGreatDoorEvV
namespace Go.Ev
open Go Go.RowKit

section
variable {P : Program} {w : World} {g : G} {x : AV} {s : St} {a : Act} {B : Nat} {o : Oper}
theorem Mem.alloc (hm : Mem g s w B) (ob : Obj) : Mem g s (w.alloc ob) B :=
  hm.grow (.refl g) rfl rfl (fun _ _ _ => rfl) (World.grownBy_alloc w ob none) (fun b o v hb hv => absurd (cell_lt (hm.held _ _ _ hv)) (by omega))
theorem Mem.fz_new (hm : Mem g s w B) {b : Nat} (hb : w.heap.size ≤ b) (o : Nat) : g.fz b o = none := by
  cases h : g.fz b o with
  | none => rfl
  | some v => exact absurd (cell_lt (hm.held _ _ _ h)) (by omega)
/-- A new variable. -/
theorem var_sound {d : Option Tmp} {z : AV} {v : Value} {acc : Acc} {s' : St} {t : TypeId} (hm : Mem g s w B) (hz : Rep g z v) (h : var s d t z = some (x, acc, s')) :
    ∃ g', Rep g' x (.pointer (some ⟨w.heap.size, 0, none⟩)) ∧ g.le g' ∧ Mem g' s' (w.alloc (.cells v.cells t)) B ∧ Below B w (w.alloc (.cells v.cells t)) ∧ ∀ b o, b < B → g'.fz b o = g.fz b o := by
  unfold var at h
  obtain ⟨hc, h⟩ := bif_some h
  injection h with h
  simp only [Prod.mk.injEq] at h
  obtain ⟨rfl, rfl, rfl⟩ := h
  rw [Bool.and_eq_true] at hc
  obtain ⟨hrow, hpos⟩ := hc
  have hpos : 0 < z.cells.length := by have : ¬ z.cells.length = 0 := by simpa using hpos
                                       omega
  obtain ⟨hl, hall⟩ := AV.row_iff.1 hrow
  obtain ⟨hr, hcell⟩ := hz.cells hall
  have hsz : v.cells.size = z.cells.length := by have := hr.1; rw [Array.length_toList] at this; exact this
  let bk : Blk := { k := s.kb + d.getD 0, g := s.nw (s.kb + d.getD 0), n := z.cells.length, els := [z], ty := t, va := true }
  have hm1 := hm.alloc (.cells v.cells t)
  have hle : g.le (g.var bk.g w.heap.size bk.n bk.n) := G.var_le (hm.etaN _ (not_used _ _))
  have how : Own (g.var bk.g w.heap.size bk.n bk.n) (w.alloc (.cells v.cells t)) B bk w.heap.size bk.n := {
    eta := by unfold G.var; simp only [if_true]
    base := hm.base
    size := by simp
    pos := hpos
    fit := by simp [bk]
    rows := fun e he => by simp [bk] at he; subst he; exact hrow
    have_ := fun o ho => by
      rw [cell_new]
      have ho : o < v.cells.size := by rw [hsz]; exact ho
      rw [Array.getElem?_eq_getElem ho]; rfl
    free := fun o _ => frozen_new w _ t o
    cell := fun i j e c he hc => by
      cases i with
      | succ i => simp [bk] at he
      | zero =>
        simp [bk] at he
        subst he
        have hj := (List.getElem?_eq_some_iff.1 hc).1
        have hj2 : j < v.cells.size := by rw [hsz]; exact hj
        refine ⟨v.cells[j], by rw [cell_new, Nat.zero_mul, Nat.zero_add]; exact Array.getElem?_eq_getElem hj2, ?_⟩
        exact (hr.2 j c _ hc (by rw [Array.getElem?_toList]; exact Array.getElem?_eq_getElem hj2)).mono hle
    shp := by rw [shape_new, hsz]
    whole := fun _ => rfl
    live := fun _ o => hm.fz_new (Nat.le_refl _) o
    held := fun h => by cases h }
  refine ⟨g.var bk.g w.heap.size bk.n bk.n, ?_, hle, hm1.addBlk (x := bk) rfl how ⟨fun y hy n l => (hm.fresh (Nat.le_refl _)).hp y hy n l, fun e he p q => (hm.fresh (Nat.le_refl _)).lv e he p q⟩ rfl rfl rfl, (Below.refl B w).alloc hm.base _, fun _ _ _ => rfl⟩
  have := Rep.pt (g := g.var bk.g w.heap.size bk.n bk.n) (s.kb + d.getD 0) (s.nw (s.kb + d.getD 0)) 0 0 w.heap.size bk.n bk.n how.eta
  simpa using this
theorem cell_setCell (w : World) (b i o : Nat) (v : Value) (h : (w.cell? ⟨b, i, none⟩).isSome = true) : (w.setCell ⟨b, i, none⟩ v).cell? ⟨b, o, none⟩ = if o = i then some v else w.cell? ⟨b, o, none⟩ := by
  unfold World.cell? at h ⊢
  unfold World.setCell
  simp only [Array.getElem?_modify, if_true]
  cases hb : w.heap[b]? with
  | none => rw [hb] at h; cases h
  | some ob =>
    rw [hb] at h
    cases ob <;> first | (cases h; done) | skip
    rename_i c t fr
    simp only [Option.map_some, Option.isSome_none, Bool.false_eq_true, if_false] at h ⊢
    rw [Array.getElem?_setIfInBounds]
    have hi : i < c.size := by
      cases hci : c[i]? with
      | none => rw [hci] at h; cases h
      | some y => exact (Array.getElem?_eq_some_iff.1 hci).1
    by_cases e : o = i
    · subst e; rw [if_pos rfl, if_pos rfl, if_pos hi]
    · rw [if_neg (fun e' => e e'.symm), if_neg e]
theorem frozen_setCell (w : World) (b i o : Nat) (v : Value) : (w.setCell ⟨b, i, none⟩ v).frozen? ⟨b, o, none⟩ = w.frozen? ⟨b, o, none⟩ := by
  unfold World.frozen? World.setCell
  simp only [Array.getElem?_modify, if_true]
  cases hb : w.heap[b]? with
  | none => rfl
  | some ob => cases ob <;> rfl
theorem shape_setCell (w : World) (b i : Nat) (v : Value) : (w.setCell ⟨b, i, none⟩ v).shape? b = w.shape? b := by
  unfold World.shape? World.setCell
  simp only [Array.getElem?_modify, if_true]
  cases hb : w.heap[b]? with
  | none => rfl
  | some ob => cases ob <;> simp
theorem setCell_grown (w : World) (b i : Nat) (v : Value) : w.grownBy (w.setCell ⟨b, i, none⟩ v) (some b) :=
  ⟨rfl, rfl, rfl, by simp [World.setCell], fun k _ hne => Below.heap_setCell _ _ _ _ (fun e => hne (by rw [e]))⟩
theorem grown_trans {a b c : World} {row : Option Nat} (h : a.grownBy b row) (k : b.grownBy c row) : a.grownBy c row :=
  ⟨k.os.trans h.os, k.tape.trans h.tape, k.output.trans h.output, Nat.le_trans h.size k.size, fun i hi hne => (k.block i (Nat.lt_of_lt_of_le hi h.size) hne).trans (h.block i hi hne)⟩
theorem run_storeCells (ad : Addr) (hs : ad.spot = none) : ∀ (vs : List Value) (i : Nat) (w : World), (∀ v ∈ vs, cellV v = true) →
    (∀ j, j < vs.length → (w.cell? ⟨ad.block, ad.off + i + j, none⟩).isSome = true ∧ w.frozen? ⟨ad.block, ad.off + i + j, none⟩ = false) →
    ∃ w', (storeCells ad vs i).run P w = .ok () w' ∧ w.grownBy w' (some ad.block) ∧ (w'.shape? ad.block = w.shape? ad.block ∧ ∀ o, w'.frozen? ⟨ad.block, o, none⟩ = w.frozen? ⟨ad.block, o, none⟩) ∧
      ∀ o, w'.cell? ⟨ad.block, o, none⟩ = if ad.off + i ≤ o ∧ o < ad.off + i + vs.length then vs[o - (ad.off + i)]? else w.cell? ⟨ad.block, o, none⟩ := by
  intro vs
  induction vs with
  | nil =>
    intro i w _ _
    refine ⟨w, rfl, ⟨rfl, rfl, rfl, Nat.le_refl _, fun _ _ _ => rfl⟩, ⟨rfl, fun _ => rfl⟩, fun o => ?_⟩
    rw [if_neg (by simp)]
  | cons v vs ih =>
    intro i w hc h
    obtain ⟨h0, h0f⟩ := h 0 (by simp)
    rw [Nat.add_zero] at h0 h0f
    have e : ad.add i = ⟨ad.block, ad.off + i, none⟩ := add_addr ad hs i
    have hst : (store (ad.add i) v).run P w = .ok () (w.setCell ⟨ad.block, ad.off + i, none⟩ v) := by
      rw [e]
      unfold store
      have hv := hc v List.mem_cons_self
      obtain ⟨y, hy⟩ := Option.isSome_iff_exists.1 h0
      cases v <;> first | (cases hv; done) | (simp only [Sem.run, hy, h0f, Bool.false_eq_true, if_false])
    obtain ⟨w', h1, h2, ⟨h5, h3⟩, h4⟩ := ih (i + 1) (w.setCell ⟨ad.block, ad.off + i, none⟩ v) (fun u hu => hc u (List.mem_cons_of_mem _ hu)) (fun j hj => by
      obtain ⟨p, q⟩ := h (j + 1) (by simp; omega)
      rw [show ad.off + (i + 1) + j = ad.off + i + (j + 1) by omega, cell_setCell _ _ _ _ _ h0, frozen_setCell]
      refine ⟨?_, q⟩
      split
      · rfl
      · exact p)
    refine ⟨w', ?_, grown_trans (setCell_grown w _ _ v) h2, ⟨by rw [h5, shape_setCell], fun o => by rw [h3, frozen_setCell]⟩, fun o => ?_⟩
    · unfold storeCells
      rw [run_bind, hst]
      exact h1
    · rw [h4, cell_setCell _ _ _ _ _ h0]
      simp only [List.length_cons]
      by_cases e1 : o = ad.off + i
      · subst e1
        rw [if_neg (by omega), if_pos rfl, if_pos (by omega)]
        simp
      · by_cases e2 : ad.off + (i + 1) ≤ o ∧ o < ad.off + (i + 1) + vs.length
        · rw [if_pos e2, if_pos (by omega), show o - (ad.off + i) = (o - (ad.off + (i + 1))) + 1 by omega]
          rfl
        · rw [if_neg e2, if_neg e1, if_neg (by omega)]
/-- A variable is written. -/
theorem Mem.upd {bk : Blk} {b lim : Nat} {els : List AV} {w' : World} (hm : Mem g s w B) (hb : bk ∈ s.hp) (ho : Own g w B bk b lim) (hz : bk.fz = false) (hg : w.grownBy w' (some b)) (ho' : Own g w' B { bk with els } b lim) : Mem g (s.setEls bk.k bk.g els) w' B := by
  have hfz := ho.live hz
  have huniq : ∀ y ∈ s.hp, y.g = bk.g → y = bk := fun y hy e => by
    have gen : ∀ l : List Blk, bk ∈ l → y ∈ l → (l.map (·.g)).Nodup → y = bk := by
      intro l
      induction l with
      | nil => intro hb; cases hb
      | cons c l ih =>
        intro hb hy hn
        rw [List.map_cons, List.nodup_cons] at hn
        rcases List.mem_cons.1 hb with hb' | hb'
        · rcases List.mem_cons.1 hy with hy' | hy'
          · rw [hb', hy']
          · exact absurd (List.mem_map.2 ⟨y, hy', by rw [e, hb']⟩) hn.1
        · rcases List.mem_cons.1 hy with hy' | hy'
          · exact absurd (List.mem_map.2 ⟨bk, hb', by rw [← e, hy']⟩) hn.1
          · exact ih hb' hy' hn.2
    exact gen s.hp hb hy hm.nod
  have hgs : ∀ l : List Blk, ((l.map fun c => bif c.k == bk.k && c.g == bk.g then { c with els } else c).map (·.g)) = l.map (·.g) := fun l => by
    rw [List.map_map]
    apply List.map_congr_left
    intro c _
    simp only [Function.comp]
    cases (c.k == bk.k && c.g == bk.g) <;> rfl
  have hmem : ∀ y ∈ (s.setEls bk.k bk.g els).hp, (y = { bk with els }) ∨ (y ∈ s.hp ∧ y.g ≠ bk.g) := fun y hy => by
    obtain ⟨c, hc, rfl⟩ := List.mem_map.1 hy
    cases h : (c.k == bk.k && c.g == bk.g) with
    | true =>
      rw [cond_true]
      rw [Bool.and_eq_true] at h
      have : c = bk := huniq c hc (by simpa using h.2)
      subst this; exact .inl rfl
    | false =>
      rw [cond_false]
      refine .inr ⟨hc, fun e => ?_⟩
      have := huniq c hc e
      subst this
      simp at h
  have hgm : ∀ y ∈ (s.setEls bk.k bk.g els).hp, ∃ y' ∈ s.hp, y'.g = y.g := fun y hy => by
    rcases hmem y hy with rfl | ⟨h, _⟩
    · exact ⟨bk, hb, rfl⟩
    · exact ⟨y, h, rfl⟩
  exact {
    held := fun b' o v hv => by
      by_cases e : b' = b
      · subst e; rw [hfz] at hv; cases hv
      · rw [cell_of_block (hg.block b' (cell_lt (hm.held _ _ _ hv)) (fun e' => e (by injection e')))]
        exact hm.held _ _ _ hv
    base := Nat.le_trans hm.base hg.size
    srt := hm.srt
    nod := by
      have := hgs s.hp
      unfold St.setEls
      simp only
      rw [this]; exact hm.nod
    blks := fun y hy => by
      rcases hmem y hy with rfl | ⟨h, hne⟩
      · exact ⟨b, lim, ho'⟩
      · obtain ⟨b', lim', hy'⟩ := hm.blks y h
        refine ⟨b', lim', hy'.keep (.refl g) (fun _ => rfl) hg.size (hg.block b' hy'.size (fun e => ?_))⟩
        injection e with e
        subst e
        exact hne (hm.inj y h bk hb _ _ _ _ _ hy'.eta ho.eta)
    inj := fun y hy z hz b' n l n' l' e1 e2 => by
      obtain ⟨y', hy', ey⟩ := hgm y hy
      obtain ⟨z', hz', ez⟩ := hgm z hz
      rw [← ey] at e1 ⊢; rw [← ez] at e2 ⊢
      exact hm.inj y' hy' z' hz' b' n l n' l' e1 e2
    old := fun y hy => by
      obtain ⟨y', hy', ey⟩ := hgm y hy
      rw [← ey]; exact hm.old y' hy'
    etaN := hm.etaN
    roomN := hm.roomN
    toks := fun e he => by
      obtain ⟨b', p, q, hl⟩ := hm.toks e he
      refine ⟨b', p, q, hl.keep (.refl g) (fun _ => rfl) hl.last hg.size (hg.block b' hl.size (fun e' => ?_))⟩
      injection e' with e'
      subst e'
      exact hm.apart e he bk hb _ _ _ _ _ hl.room ho.eta
    oldT := hm.oldT
    tnod := hm.tnod
    tinj := hm.tinj
    apart := fun e he y hy b' p q n l hr => by
      obtain ⟨y', hy', ey⟩ := hgm y hy
      rw [← ey]; exact hm.apart e he y' hy' b' p q n l hr }
theorem upd_cells {oo : Nat} {y e : AV} (hy : 0 < y.cells.length) (hle : oo + y.cells.length ≤ e.cells.length) : (upd oo y e).cells = e.cells.take oo ++ y.cells ++ e.cells.drop (oo + y.cells.length) := by
  unfold upd
  split
  · rfl
  · rename_i hne
    have hc : e.cells = [e] := by cases e <;> first | rfl | exact absurd rfl (hne _)
    rw [hc] at hle ⊢
    simp only [List.length_cons, List.length_nil] at hle
    obtain rfl : oo = 0 := by omega
    rw [List.drop_of_length_le (by simp; omega)]
    simp
/-- A store. -/
theorem store_sound {t : TypeId} {kk tt i oo n : Nat} {ag : Bool} {bk : Blk} {e y : AV} {z v : Value} (hm : Mem g s w B) (hz : Rep g (.pt kk tt i oo) z) (hy : Rep g y v) (hbk : s.blk kk tt = some bk) (he : bk.els[i]? = some e) (ht : tyi P t = some (ag, n))
    (hrow : y.row n = true) (hle : oo + n ≤ e.cells.length) (hf : bk.fz = false) (hn : n ≠ 0) :
    ∃ w', (Instr.storeAt t z v).run P w = .ok () w' ∧ Mem g (s.setEls kk tt (bk.els.set i (upd oo y e))) w' B ∧ Below B w w' := by
  obtain ⟨hb, hkk, hgg⟩ := blk_parts hbk
  obtain ⟨b, lim, ho⟩ := hm.blks bk hb
  cases hz with
  | pt _ _ _ _ b' n' lim' hη =>
  have h2 := ho.eta
  rw [hgg, hη] at h2; injection h2 with h2; simp only [Prod.mk.injEq] at h2; obtain ⟨rfl, rfl, rfl⟩ := h2
  obtain ⟨hyl, hyc⟩ := AV.row_iff.1 hrow
  obtain ⟨hyr, hyv⟩ := hy.cells hyc
  have hvs : v.cells.size = n := by have := hyr.1; rw [Array.length_toList] at this; rw [this]; exact hyl
  have hi := (List.getElem?_eq_some_iff.1 he).1
  obtain ⟨hel, hec⟩ := AV.row_iff.1 (ho.rows e (List.mem_of_getElem? he))
  have hin : i * bk.n + bk.n ≤ bk.els.length * bk.n := by
    calc i * bk.n + bk.n = (i + 1) * bk.n := by rw [Nat.add_mul, Nat.one_mul]
      _ ≤ bk.els.length * bk.n := Nat.mul_le_mul_right _ hi
  have hlim := ho.fit
  obtain ⟨w', h1, h2, ⟨h5, h3⟩, h4⟩ := run_storeCells (P := P) ⟨b', i * bk.n + oo, none⟩ rfl v.cells.toList 0 w hyv (fun j hj => by
    rw [Array.length_toList, hvs] at hj
    exact ⟨ho.have_ _ (by simp only [Nat.add_zero]; omega), ho.free _ (by simp only [Nat.add_zero]; omega)⟩)
  simp only [Nat.add_zero, Array.length_toList, hvs] at h3 h4
  refine ⟨w', ?_, ?_, (Below.refl B w).grown h2 hm.base (fun k hk => by injection hk with hk; subst hk; exact ho.base)⟩
  · unfold Instr.storeAt
    rw [run_bind]
    simp only [Instr.sureAddr, run_pure]
    unfold storeVar
    rw [run_bind, run_sizeOf ht]
    simp only
    rw [if_neg (by simp [hvs])]
    exact h1
  · subst hkk; subst hgg
    refine hm.upd hb ho hf h2 ?_
    have huc := upd_cells (oo := oo) (y := y) (e := e) (by omega) (by omega)
    exact {
      eta := ho.eta
      base := ho.base
      size := Nat.lt_of_lt_of_le ho.size h2.size
      pos := ho.pos
      fit := by simpa using ho.fit
      rows := fun q hq => by
        rcases List.mem_or_eq_of_mem_set hq with hq | rfl
        · exact ho.rows q hq
        · refine AV.row_iff.2 ⟨?_, ?_⟩
          · rw [huc]; simp; omega
          · rw [huc, List.all_append, List.all_append, hyc, Bool.and_true, Bool.and_eq_true]
            rw [List.all_eq_true] at hec
            exact ⟨List.all_eq_true.2 fun c hc => hec c (List.mem_of_mem_take hc), List.all_eq_true.2 fun c hc => hec c (List.mem_of_mem_drop hc)⟩
      have_ := fun p hp => by
        rw [h4]
        split
        · rename_i hh
          rw [List.getElem?_eq_getElem (by rw [Array.length_toList, hvs]; omega)]; rfl
        · exact ho.have_ p hp
      free := fun p hp => by rw [h3]; exact ho.free p hp
      shp := by rw [h5]; exact ho.shp
      whole := ho.whole
      cell := fun i' j q c hq hc => by
        show ∃ v', w'.cell? ⟨b', i' * bk.n + j, none⟩ = some v' ∧ Rep g c v'
        rw [h4]
        rw [List.getElem?_set] at hq
        by_cases hii : i = i'
        · subst hii
          rw [if_pos rfl, if_pos hi] at hq
          injection hq with hq
          subst hq
          rw [huc] at hc
          by_cases hj1 : j < oo
          · rw [List.append_assoc, List.getElem?_append_left (by simp; omega), List.getElem?_take, if_pos hj1] at hc
            rw [if_neg (by omega)]
            exact ho.cell i j e c he hc
          · by_cases hj2 : j < oo + n
            · rw [List.getElem?_append_left (by simp; omega), List.getElem?_append_right (by simp; omega)] at hc
              rw [if_pos (by omega)]
              have hl : (e.cells.take oo).length = oo := by simp; omega
              rw [hl] at hc
              have hlt : j - oo < v.cells.toList.length := by rw [Array.length_toList, hvs]; omega
              rw [show i * bk.n + j - (i * bk.n + oo) = j - oo by omega]
              exact ⟨_, List.getElem?_eq_getElem hlt, hyr.2 _ c _ hc (List.getElem?_eq_getElem hlt)⟩
            · rw [List.getElem?_append_right (by simp; omega), List.getElem?_drop] at hc
              rw [if_neg (by omega)]
              have hl : (e.cells.take oo ++ y.cells).length = oo + n := by simp; omega
              rw [hl, hyl, show oo + n + (j - (oo + n)) = j by omega] at hc
              exact ho.cell i j e c he hc
        · rw [if_neg hii] at hq
          have hj : j < bk.n := by
            rw [← (AV.row_iff.1 (ho.rows q (List.mem_of_getElem? hq))).1]
            exact (List.getElem?_eq_some_iff.1 hc).1
          have : ¬ (i * bk.n + oo ≤ i' * bk.n + j ∧ i' * bk.n + j < i * bk.n + oo + n) := by
            rcases Nat.lt_or_gt_of_ne hii with hlt | hgt
            · have : (i + 1) * bk.n ≤ i' * bk.n := Nat.mul_le_mul_right _ hlt
              rw [Nat.add_mul, Nat.one_mul] at this
              omega
            · have : (i' + 1) * bk.n ≤ i * bk.n := Nat.mul_le_mul_right _ hgt
              rw [Nat.add_mul, Nat.one_mul] at this
              omega
          rw [if_neg this]
          exact ho.cell i' j q c hq hc
      live := ho.live
      held := fun hh => by rw [hf] at hh; cases hh }
theorem hp_uniq (hm : Mem g s w B) {bk y : Blk} (hb : bk ∈ s.hp) (hy : y ∈ s.hp) (e : y.g = bk.g) : y = bk := by
  have gen : ∀ l : List Blk, bk ∈ l → y ∈ l → (l.map (·.g)).Nodup → y = bk := by
    intro l
    induction l with
    | nil => intro hb; cases hb
    | cons c l ih =>
      intro hb hy hn
      rw [List.map_cons, List.nodup_cons] at hn
      rcases List.mem_cons.1 hb with hb' | hb'
      · rcases List.mem_cons.1 hy with hy' | hy'
        · rw [hb', hy']
        · exact absurd (List.mem_map.2 ⟨y, hy', by rw [e, hb']⟩) hn.1
      · rcases List.mem_cons.1 hy with hy' | hy'
        · exact absurd (List.mem_map.2 ⟨bk, hb', by rw [← e, hy']⟩) hn.1
        · exact ih hb' hy' hn.2
  exact gen s.hp hb hy hm.nod
/-- A row of our own is frozen. -/
theorem Mem.frz (hm : Mem g s w B) {k t : Nat} {bk : Blk} {b lim : Nat} (hbk : s.blk k t = some bk) (ho : Own g w B bk b lim) :
    ∃ g', g.le g' ∧ Mem g' (s.frz k t) w B ∧ (∀ o, o < bk.els.length * bk.n → g'.fz b o = w.cell? ⟨b, o, none⟩) ∧ (∀ b' o, b' < B → g'.fz b' o = g.fz b' o) := by
  obtain ⟨hb, hk, hg⟩ := blk_parts hbk
  subst hk; subst hg
  let g' : G := { g with fz := fun b' o => if b' = b ∧ bk.fz = false ∧ o < bk.els.length * bk.n then w.cell? ⟨b, o, none⟩ else g.fz b' o }
  have hle : g.le g' := {
    fz := fun b' o v hv => by
      simp only [g']
      split
      · rename_i h
        rw [h.1] at hv
        rw [ho.live h.2.1 o] at hv; cases hv
      · exact hv
    eta := fun _ _ h => h
    room := fun _ _ _ h => h }
  have hsame : ∀ b' o, b' ≠ b → g'.fz b' o = g.fz b' o := fun b' o h => by simp only [g']; rw [if_neg (fun q => h q.1)]
  have hheld : ∀ o, o < bk.els.length * bk.n → g'.fz b o = w.cell? ⟨b, o, none⟩ := fun o h => by
    simp only [g']
    cases hz : bk.fz with
    | false => rw [if_pos ⟨by trivial, by trivial, h⟩]
    | true => rw [if_neg (by simp)]; exact ho.held hz o h
  have hmem : ∀ y ∈ (s.frz bk.k bk.g).hp, (y = { bk with fz := true }) ∨ (y ∈ s.hp ∧ y.g ≠ bk.g) := fun y hy => by
    obtain ⟨c, hc, rfl⟩ := List.mem_map.1 hy
    cases h : (c.k == bk.k && c.g == bk.g) with
    | true =>
      rw [cond_true]
      rw [Bool.and_eq_true] at h
      have : c = bk := hp_uniq hm hb hc (by simpa using h.2)
      subst this; exact .inl rfl
    | false =>
      rw [cond_false]
      refine .inr ⟨hc, fun e => ?_⟩
      have := hp_uniq hm hb hc e
      subst this
      simp at h
  have hgm : ∀ y ∈ (s.frz bk.k bk.g).hp, ∃ y' ∈ s.hp, y'.g = y.g := fun y hy => by
    rcases hmem y hy with rfl | ⟨h, _⟩
    · exact ⟨bk, hb, rfl⟩
    · exact ⟨y, h, rfl⟩
  refine ⟨g', hle, ?_, hheld, fun b' o h => hsame b' o (by have := ho.base; omega)⟩
  exact {
    held := fun b' o v hv => by
      simp only [g'] at hv
      split at hv
      · rename_i h; rw [h.1]; exact hv
      · exact hm.held _ _ _ hv
    base := hm.base
    nod := by
      have : ((s.frz bk.k bk.g).hp.map (·.g)) = s.hp.map (·.g) := by
        unfold St.frz
        simp only [List.map_map]
        apply List.map_congr_left
        intro c _
        simp only [Function.comp]
        cases (c.k == bk.k && c.g == bk.g) <;> rfl
      rw [this]; exact hm.nod
    blks := fun y hy => by
      rcases hmem y hy with rfl | ⟨h, hne⟩
      · refine ⟨b, lim, ?_⟩
        exact {
          eta := ho.eta
          base := ho.base
          size := ho.size
          pos := ho.pos
          fit := ho.fit
          rows := ho.rows
          have_ := ho.have_
          free := ho.free
          shp := ho.shp
          whole := ho.whole
          cell := fun i j e c he hc => by obtain ⟨v, h1, h2⟩ := ho.cell i j e c he hc; exact ⟨v, h1, h2.mono hle⟩
          live := fun h => by cases h
          held := fun _ o h => hheld o h }
      · obtain ⟨b', lim', hy'⟩ := hm.blks y h
        refine ⟨b', lim', hy'.keep hle (fun o => hsame b' o (fun e => ?_)) (Nat.le_refl _) rfl⟩
        subst e
        exact hne (hm.inj y h bk hb _ _ _ _ _ hy'.eta ho.eta)
    inj := fun y hy z hz b' n l n' l' e1 e2 => by
      obtain ⟨y', hy', ey⟩ := hgm y hy
      obtain ⟨z', hz', ez⟩ := hgm z hz
      rw [← ey] at e1 ⊢; rw [← ez] at e2 ⊢
      exact hm.inj y' hy' z' hz' b' n l n' l' e1 e2
    old := fun y hy => by
      obtain ⟨y', hy', ey⟩ := hgm y hy
      rw [← ey]; exact hm.old y' hy'
    etaN := hm.etaN
    roomN := hm.roomN
    toks := fun e he => by
      obtain ⟨b', p, q, hl⟩ := hm.toks e he
      exact ⟨b', p, q, hl.keep hle (fun o => hsame b' o (fun e' => by subst e'; exact hm.apart e he bk hb _ _ _ _ _ hl.room ho.eta)) hl.last (Nat.le_refl _) rfl⟩
    oldT := hm.oldT
    tnod := hm.tnod
    srt := hm.srt
    tinj := hm.tinj
    apart := fun e he y hy b' p q n l hr => by
      obtain ⟨y', hy', ey⟩ := hgm y hy
      rw [← ey]; exact hm.apart e he y' hy' b' p q n l hr }
end
end Go.Ev
