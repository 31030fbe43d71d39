/-
  Appending is sound; no condition.
-/
import Derived.Test.YtjfpcgkgdajcfaaGreatDoorEvX
namespace Go.Ev
open Go Go.RowKit

section
variable {P : Program} {w : World} {g : G} {x : AV} {s : St} {a : Act} {B : Nat} {o : Oper}
theorem nextslicecap_le (need cap : Nat) (h : cap < need) : Builtin.nextslicecap need cap ≤ 4 * need + 2000 := by
  unfold Builtin.nextslicecap
  split
  · omega
  · split
    · omega
    · unfold Builtin.growBy
      split
      · omega
      · unfold Builtin.growBy
        split
        · omega
        · unfold Builtin.growBy
          split
          · omega
          · unfold Builtin.growBy
            split
            · omega
            · unfold Builtin.growBy
              omega
theorem notInt_parts {t : TypeId} (h : notInt P t = true) : ∃ d, P.underlying t = some d ∧ (∀ k, d ≠ .int k) := by
  unfold notInt at h
  split at h
  · cases h
  · cases h
  · rename_i d hd hu
    exact ⟨d, hu, fun k e => hd k e⟩
theorem append_place {t t2 et ty : TypeId} {base : Option Addr} {len cap m n : Nat} {ag : Bool} {vy : Value} {new : Array Value} {w' : World} (hu : P.underlying t = some (.slice et)) (hty : tyi P et = some (ag, n)) (h2 : notInt P t2 = true) (hlen : ∀ w : World, (Builtin.lenOf vy).run P w = .ok m w)
    (hle : len + m ≤ cap) (hnew : (Builtin.firstCells n m vy).run P w = .ok new w) (hst : match base with | some a => (storeCells (a.add (len * n)) new.toList).run P w = .ok () w' | none => w' = w) :
    (Builtin.append_ #[t, t2] ty #[.slice base len cap, vy]).run P w = .ok (.slice base (len + m) cap) w' := by
  obtain ⟨d, hd, hdn⟩ := notInt_parts h2
  unfold Builtin.append_
  simp only [List.getElem?_toArray, List.getElem?_cons_zero, List.getElem?_cons_succ]
  rw [run_bind, run_underlying hu]
  simp only
  rw [run_bind, run_sizeOf hty]
  simp only
  rw [run_bind, run_underlying hd]
  simp only
  rw [run_bind, run_pure]
  simp only [Bool.false_eq_true, if_false]
  rw [run_bind, hlen]
  simp only
  rw [if_pos hle]
  simp only [Bool.not_false, if_true]
  rw [run_bind, hnew]
  simp only
  cases base with
  | none => simp only at hst; rw [hst]; rfl
  | some ad =>
    simp only at hst ⊢
    rw [run_bind, hst]
    rfl
theorem append_grow {t t2 et ty : TypeId} {base : Option Addr} {len cap m n : Nat} {ag : Bool} {vy v0 : Value} {old new : Array Value} {i : TypeInfo} (hu : P.underlying t = some (.slice et)) (hty : tyi P et = some (ag, n)) (h2 : notInt P t2 = true) (hlen : ∀ w : World, (Builtin.lenOf vy).run P w = .ok m w)
    (hgt : cap < len + m) (hi : P.info? et = some i) (hz0 : ∀ w, (zeroValue et).run P w = .ok v0 w) (hb : (len + m + 1) * (i.bytes + 1) ≤ 2 ^ 36) (hold : (Builtin.firstCells n len (.slice base len cap)).run P w.drew = .ok old w.drew) (hnew : (Builtin.firstCells n m vy).run P w.drew = .ok new w.drew) :
    ∃ newCap, len + m ≤ newCap ∧ (Builtin.append_ #[t, t2] ty #[.slice base len cap, vy]).run P w = .ok (.slice (some ⟨w.heap.size, 0, none⟩) (len + m) newCap) (w.drew.alloc (.cells (old ++ new ++ Builtin.zeroCells v0.cells (newCap - (len + m))) et)) := by
  obtain ⟨d, hd, hdn⟩ := notInt_parts h2
  obtain ⟨newCap, hcap, hch⟩ := run_choose_cap (P := P) (w := w) (need := len + m) (old := cap) (e := et)
  refine ⟨newCap, hcap, ?_⟩
  have h40 : len + m + 1 ≤ 2 ^ 36 := Nat.le_trans (Nat.le_mul_of_pos_right _ (by omega)) hb
  have hns := nextslicecap_le (len + m) cap hgt
  have hmul : Builtin.nextslicecap (len + m) cap * i.bytes ≤ 2 ^ 48 := by
    have h1 : Builtin.nextslicecap (len + m) cap * i.bytes ≤ (4 * (len + m) + 2000) * i.bytes := Nat.mul_le_mul_right _ hns
    have h3 : (len + m) * i.bytes ≤ 2 ^ 36 := Nat.le_trans (Nat.mul_le_mul (by omega) (by omega)) hb
    have h4 : i.bytes ≤ 2 ^ 36 := by
      have : 1 * (i.bytes + 1) ≤ (len + m + 1) * (i.bytes + 1) := Nat.mul_le_mul_right _ (by omega)
      omega
    have h5 : (4 * (len + m) + 2000) * i.bytes = 4 * ((len + m) * i.bytes) + 2000 * i.bytes := by rw [Nat.add_mul, Nat.mul_assoc]
    omega
  unfold Builtin.append_
  simp only [List.getElem?_toArray, List.getElem?_cons_zero, List.getElem?_cons_succ]
  rw [run_bind, run_underlying hu]
  simp only
  rw [run_bind, run_sizeOf hty]
  simp only
  rw [run_bind, run_underlying hd]
  simp only
  rw [run_bind, run_pure]
  simp only [Bool.false_eq_true, if_false]
  rw [run_bind, hlen]
  simp only
  rw [if_neg (by omega)]
  rw [run_bind, run_typeInfo hi]
  simp only
  have h64 : ¬ ((((len + m : Nat) : Int) > IntKind.i64.max) ∧ (False ∨ i.bytes = 0)) := by
    have : IntKind.i64.max = 9223372036854775807 := by decide
    rw [this]; omega
  rw [if_neg h64, run_bind, run_typeInfo hi]
  simp only
  rw [if_neg (by omega), run_bind, hch]
  simp only
  rw [run_bind, run_typeInfo hi]
  simp only
  rw [run_bind, run_askRoom]
  simp only
  rw [run_bind, hold]
  simp only [Bool.not_false, if_true]
  rw [run_bind, hnew]
  simp only
  rw [run_bind, hz0]
  rfl
theorem hasTk_mem {k t len : Nat} {ty : TypeId} {l : List (Nat × Nat × Nat × TypeId)} (h : hasTk k t len ty l = true) : (k, t, len, ty) ∈ l := by
  unfold hasTk at h
  rw [List.any_eq_true] at h
  obtain ⟨⟨a, b, c, d⟩, he, h⟩ := h
  simp only [Bool.and_eq_true, beq_iff_eq] at h
  obtain ⟨rfl, rfl, rfl, rfl⟩ := h
  exact he
theorem zeroCells_size (z : Array Value) (m : Nat) : (Builtin.zeroCells z m).size = m * z.size := by
  unfold Builtin.zeroCells; simp
theorem setTk_same {k t len : Nat} {ty : TypeId} : ∀ {l : List (Nat × Nat × Nat × TypeId)}, hasTk k t len ty l = true → l.Pairwise (fun a b => a.1 < b.1) → setTk k t len ty l = l := by
  intro l
  induction l with
  | nil => intro h _; cases h
  | cons e l ih =>
    intro h hs
    rw [List.pairwise_cons] at hs
    have hm := hasTk_mem h
    rcases List.mem_cons.1 hm with he | he
    · subst he
      simp only [setTk]
      rw [show Nat.blt k k = false by cases hb : Nat.blt k k with | false => rfl | true => exact absurd (Nat.le_of_ble_eq_true hb) (by omega), cond_false, beq_self_eq_true, cond_true]
    · have hlt := hs.1 _ he
      simp only at hlt
      have h1 : Nat.blt k e.1 = false := by cases hb : Nat.blt k e.1 with | false => rfl | true => exact absurd (Nat.le_of_ble_eq_true hb) (by omega)
      have h2 : (e.1 == k) = false := beq_eq_false_iff_ne.2 (by omega)
      simp only [setTk, h1, h2, cond_false]
      rw [ih ?_ hs.2]
      unfold hasTk
      exact List.any_eq_true.2 ⟨_, he, by simp⟩
/-- Appending to what is no row of our own. -/
theorem app_sound {t t2 ty : TypeId} {n bs k : Nat} {ag : Bool} {p vy : AV × Value} {s' : St} {mu : Bool} {acc : Acc} {ety : TypeId} (hety : elT P t = ety) (hm : Mem g s w B) (hx : Rep g p.1 p.2) (hy : Rep g vy.1 vy.2) (he : eli P t = some (ag, n)) (hbs : bytesOf P t = some bs) (h2 : notInt P t2 = true) (hz : zOk P t n = true) (hn : n ≠ 0)
    (h : app mu ety n bs k p.1 vy.1 s = some (x, acc, s')) :
    ∃ v w' g', (Builtin.append_ #[t, t2] ty #[p.2, vy.2]).run P w = .ok v w' ∧ Rep g' x v ∧ g.le g' ∧ Mem g' s' w' B ∧ Below B w w' ∧ ∀ b o, b < B → g'.fz b o = g.fz b o := by
  obtain ⟨et, hu, hty⟩ := eli_parts he
  obtain ⟨et2, i, hu2, hi, hib⟩ := bytesOf_parts hbs
  rw [hu] at hu2; injection hu2 with hu2; injection hu2 with hu2; subst hu2
  obtain ⟨zv, hzv, hzrow⟩ : ∃ zv, (∀ w, (zeroValue et).run P w = .ok zv w) ∧ (AV.of zv).row n = true := by
    unfold zOk at hz
    split at hz
    · rename_i z hz1
      obtain ⟨v, h1, rfl⟩ := zerE_parts hu hz1
      exact ⟨v, h1, hz⟩
    · cases hz
  have hzs : zv.cells.size = n := by
    obtain ⟨hzl, hzc⟩ := AV.row_iff.1 hzrow
    have hzr := ((Rep.of g zv).cells hzc).1
    have := hzr.1; rw [Array.length_toList] at this; rw [this]; exact hzl
  obtain ⟨px, pv⟩ := p
  obtain ⟨py, pw⟩ := vy
  simp only at hx hy h ⊢
  unfold app at h
  split at h
  case h_2 => cases h
  rename_i nil n' els tok
  rw [Option.bind_eq_some_iff] at h
  obtain ⟨ds, hds, h⟩ := h
  obtain ⟨hc, h⟩ := cnd_some h
  rw [Bool.and_eq_true] at hc
  obtain ⟨hbound, hn'⟩ := hc
  have hbound : (els.length + ds.length + 1) * (i.bytes + 1) ≤ 2 ^ 36 := by rw [hib]; simpa using hbound
  have hn' : els = [] ∨ n' = n := by simpa using hn'
  obtain ⟨hlen, hdrows, cells, hcells, hcr⟩ := run_appended (P := P) hm.held hy hds
  obtain ⟨base, cap, rfl, hcap⟩ := sl_shape hx
  have hnone : ds = [] → (Builtin.append_ #[t, t2] ty #[.slice base els.length cap, pw]).run P w = .ok (.slice base els.length cap) w := fun hd => by
    subst hd
    have hce : cells.toList = [] := hcr.inv0
    refine append_place (len := els.length) (m := 0) hu hty h2 hlen hcap hcells ?_
    cases base with
    | none => rfl
    | some ad => simp only; rw [hce]; rfl
  cases hde : (ds.isEmpty && isFree tok) with
  | true =>
    rw [hde] at h
    injection h with h
    simp only [Prod.mk.injEq] at h
    obtain ⟨rfl, rfl, rfl⟩ := h
    have : ds = [] := by rw [Bool.and_eq_true] at hde; simpa using hde.1
    exact ⟨.slice base els.length cap, w, g, hnone this, hx, .refl g, hm, .refl B w, fun _ _ _ => rfl⟩
  | false =>
    rw [hde, cnd_false] at h
    by_cases hdn : ds = []
    · have hf : isFree tok = false := by rw [hdn] at hde; simpa using hde
      cases tok with
      | full => cases hf
      | no => cases hf
      | own k' tt =>
        have hrun := hnone hdn
        subst hdn
        unfold appT at h
        simp only [List.append_nil] at h
        obtain ⟨hc2, h⟩ := cnd_some h
        rw [Bool.and_eq_true] at hc2
        injection h with h
        simp only [Prod.mk.injEq] at h
        obtain ⟨rfl, rfl, rfl⟩ := h
        have hnn : n' = n := eq_of_beq hc2.2
        subst hnn
        have hsame := setTk_same hc2.1 hm.srt
        refine ⟨.slice base els.length cap, w, g, hrun, ?_, .refl g, ?_, .refl B w, fun _ _ _ => rfl⟩
        · cases hx with
          | slNil _ _ ht => exact absurd rfl (ht _ _)
          | sl _ _ _ a cap f hs hn h1 h2 hc ht => exact .sl _ _ _ a cap f hs hn h1 h2 hc ht
        · rw [hsame]; exact hm
    have hde : ds.isEmpty = false := by cases ds <;> first | exact absurd rfl hdn | rfl
    have hdl : 0 < ds.length := List.length_pos_iff.2 hdn
    -- the row that comes of growing
    have hgrow : cap < els.length + ds.length → ∃ (newCap : Nat) (vs : Array Value) (w' : World), (Builtin.append_ #[t, t2] ty #[.slice base els.length cap, pw]).run P w = .ok (.slice (some ⟨w.heap.size, 0, none⟩) (els ++ ds).length newCap) w' ∧ w.grownBy w' none ∧ w.heap.size < w'.heap.size ∧ (∀ o, w'.cell? ⟨w.heap.size, o, none⟩ = vs[o]?) ∧
        (∀ o, w'.frozen? ⟨w.heap.size, o, none⟩ = false) ∧ (∀ e ∈ els ++ ds, e.row n = true) ∧ Reps g (flat (els ++ ds)) (vs.toList.take ((els ++ ds).length * n)) ∧ (els ++ ds).length ≤ newCap ∧ vs.size = newCap * n ∧ w'.shape? w.heap.size = some (ety, vs.size) := by
      intro hlt
      have hself : elemsOf n (.sl nil n' els tok) = some els := by
        unfold elemsOf
        simp only
        have : (els.isEmpty || n' == n) = true := by rcases hn' with h | h <;> simp [h]
        rw [this]; rfl
      obtain ⟨_, herows, old, hold, hor⟩ := run_appended (P := P) (w := w.drew) (g := g) (fun b o v hv => hm.held b o v hv) hx hself
      obtain ⟨_, _, new, hnew, hnr⟩ := run_appended (P := P) (w := w.drew) (g := g) (fun b o v hv => hm.held b o v hv) hy hds
      obtain ⟨newCap, hnc, hrun⟩ := append_grow (P := P) (w := w) (ty := ty) hu hty h2 hlen hlt hi hzv hbound hold hnew
      have hrows : ∀ e ∈ els ++ ds, e.row n = true := fun e he => by
        rcases List.mem_append.1 he with he | he
        · exact herows e he
        · exact hdrows e he
      have hl1 : old.size = els.length * n := by have := hor.1; rw [Array.length_toList, flat_len herows] at this; exact this
      have hl2 : new.size = ds.length * n := by have := hnr.1; rw [Array.length_toList, flat_len hdrows] at this; exact this
      let vs : Array Value := old ++ new ++ Builtin.zeroCells zv.cells (newCap - (els.length + ds.length))
      refine ⟨newCap, vs, w.drew.alloc (.cells vs et), by rw [List.length_append]; exact hrun, ?_, by simp, fun o => cell_new w.drew vs et (0, 0) o, fun o => frozen_new w.drew vs et o, hrows, ?_, by rw [List.length_append]; exact hnc, ?_, ?_⟩
      · exact ⟨rfl, rfl, rfl, by simp, fun k hk _ => Below.heap_alloc w.drew _ k hk⟩
      · rw [flat_app]
        have happ := hor.app hnr
        have hl : (old.toList ++ new.toList).length = (els ++ ds).length * n := by simp [hl1, hl2, Nat.add_mul]
        have : vs.toList.take ((els ++ ds).length * n) = old.toList ++ new.toList := by
          simp only [vs, Array.toList_append]
          rw [List.take_append_of_le_length (by omega), List.take_of_length_le (by omega)]
        rw [this]; exact happ
      · simp only [vs, Array.size_append, hl1, hl2, zeroCells_size, hzs]
        rw [← Nat.add_mul, ← Nat.add_mul]
        congr 1
        omega
      · rw [← hety, show elT P t = et by unfold elT; rw [hu]]
        exact shape_new w.drew vs et
    cases tok with
    | no => cases h
    | full =>
      have hcl : cap < els.length + ds.length := by
        cases hx with
        | slNil => simpa using hdl
        | sl _ _ _ ad cap f hs hrow hf1 hf2 hc ht => simp only [Tok.fits] at ht; omega
      obtain ⟨newCap, vs, w', hrun, hgb, hsz, hcell, hfree, hrows, hr, hc1, hc2, hshp⟩ := hgrow hcl
      unfold appT at h
      simp only [List.length_append] at h
      cases mu with
      | false =>
        rw [cond_false] at h
        injection h with h
        simp only [Prod.mk.injEq] at h
        obtain ⟨rfl, rfl, rfl⟩ := h
        obtain ⟨g', h1, h2', h3, h4, h5⟩ := fresh_tok (k := k) (s' := newTk s k (els.length + ds.length) ety) hm hgb hsz hcell (fun o _ => hfree o) hrows hr hc1 hc2 hshp rfl rfl (by rw [List.length_append]; rfl)
        exact ⟨_, w', g', hrun, h1, h2', h3, h4, h5⟩
      | true =>
        rw [cond_true] at h
        injection h with h
        simp only [Prod.mk.injEq] at h
        obtain ⟨rfl, rfl, rfl⟩ := h
        obtain ⟨g', h1, h2', h3, h4, h5⟩ := fresh_row (k := k) (full := false) hm hgb hsz hcell (fun o _ => hfree o) hrows hr hc1 hc2 hshp (by omega) (fun q => by cases q)
        rw [List.length_append] at h1
        exact ⟨_, w', g', by rw [List.length_append] at hrun; exact hrun, h1, h2', h3, h4, h5⟩
    | own k' tt =>
      unfold appT at h
      simp only [List.length_append] at h
      obtain ⟨htk, h⟩ := cnd_some h
      rw [Bool.and_eq_true] at htk
      obtain ⟨htk, hnn⟩ := htk
      have hnn : n' = n := by simpa using hnn
      subst hnn
      injection h with h
      simp only [Prod.mk.injEq] at h
      obtain ⟨rfl, rfl, rfl⟩ := h
      have hmem := hasTk_mem htk
      obtain ⟨bb, ee, lim, hlive⟩ := hm.toks _ hmem
      simp only at hlive
      cases hx with
      | slNil _ _ ht => exact absurd rfl (ht _ _)
      | sl _ _ _ ad cap f hs hrow hf1 hf2 hc ht =>
      simp only [Tok.fits] at ht
      obtain ⟨hoff, ht⟩ := ht
      have hroom := hlive.room
      rw [ht] at hroom; injection hroom with hroom; simp only [Prod.mk.injEq] at hroom
      obtain ⟨hbb, hee, hlim⟩ := hroom
      have hee : ad.off + els.length * n' = ee := by omega
      have hlim : ad.off + cap * n' = lim := by omega
      have hltn : Used s.nx tt := hm.oldT _ hmem
      let s0 : St := { s with lv := s.lv.filter fun e => !(e.1 == k') }
      have hm0 : Mem g s0 w B := hm.drop rfl rfl List.filter_sublist
      have hset : ∀ m, setTk k' tt m ety s.lv = setTk k' tt m ety s0.lv := fun m => setTk_filter hm.srt
      have hother : ∀ e ∈ s0.lv, e.2.1 ≠ tt ∧ ∀ x y, g.room e.2.1 e.2.2.1 ≠ some (bb, x, y) := fun e he => by
        obtain ⟨he1, he2⟩ := List.mem_filter.1 he
        have hk : e.1 ≠ k' := by simpa using he2
        refine ⟨fun q => ?_, fun p q hr => ?_⟩
        · have := hm.tnod e he1 _ hmem q
          exact hk (by rw [this])
        · have := hm.tinj e he1 _ hmem _ _ _ _ _ hr hlive.room
          exact hk (by rw [this])
      by_cases hle : els.length + ds.length ≤ cap
      · -- in place
        have hcl : cells.toList.length = ds.length * n' := by have := hcr.1; rw [flat_len hdrows] at this; exact this
        have hcv : ∀ v ∈ cells.toList, cellV v = true := fun v hv => by
          obtain ⟨q, hq⟩ := List.mem_iff_getElem?.1 hv
          have hlt : q < (flat ds).length := by rw [← hcr.1]; exact (List.getElem?_eq_some_iff.1 hq).1
          have hfq : (flat ds)[q]? = some (flat ds)[q] := List.getElem?_eq_getElem hlt
          obtain ⟨e, h1, h2, _, _⟩ := flat_inv (by omega) hdrows hfq
          have hce := (AV.row_iff.1 (hdrows e (List.mem_of_getElem? h1))).2
          exact (hcr.2 q _ _ hfq hq).cellV (List.all_eq_true.1 hce _ (List.mem_of_getElem? h2))
        have hcm : els.length * n' + ds.length * n' ≤ cap * n' := by rw [← Nat.add_mul]; exact Nat.mul_le_mul_right n' hle
        have hadd : ad.add (els.length * n') = ⟨bb, ee, none⟩ := by rw [add_addr ad hs, hbb, hee]
        obtain ⟨w', hst, hgb, ⟨hshw, hfr⟩, hce⟩ := run_storeCells (P := P) ⟨bb, ee, none⟩ rfl cells.toList 0 w hcv (fun j hj => ⟨hlive.have_ _ (by simp only; omega) (by simp only; omega), hlive.free _ (by simp only; omega) (by simp only; omega)⟩)
        simp only [Nat.add_zero, hcl] at hfr hce
        have hrun := append_place (P := P) (ty := ty) hu hty h2 hlen hle hcells (w' := w') (base := some ad) (by simp only; rw [hadd]; exact hst)
        let g1 : G := { g with fz := fun b o => if b = bb ∧ ee ≤ o ∧ o < ee + ds.length * n' then cells[o - ee]? else g.fz b o }
        have hle1 : g.le g1 := {
          fz := fun b o v hv => by
            simp only [g1]
            rw [if_neg (fun q => by have := hlive.quiet o q.2.1; rw [← q.1, hv] at this; cases this)]
            exact hv
          eta := fun _ _ h => h
          room := fun _ _ _ h => h }
        have hm1 : Mem g1 s0 w' B := by
          refine hm0.write (b := bb) ⟨fun y hy n l => hm.apart _ hmem y hy _ _ _ _ _ hlive.room, fun e he x y => (hother e he).2 x y⟩ hgb hle1 rfl rfl (fun b' o hb' => ?_) (fun o v hv => ?_)
          · simp only [g1]; rw [if_neg (fun q => hb' q.1)]
          · simp only [g1] at hv
            rw [hce]
            by_cases hr : ee ≤ o ∧ o < ee + ds.length * n'
            · rw [if_pos ⟨by trivial, hr⟩] at hv
              rw [if_pos hr, Array.getElem?_toList]; exact hv
            · rw [if_neg (fun q => hr q.2)] at hv
              rw [if_neg hr]
              exact hm.held _ _ _ hv
        have hnone : g1.room tt (els.length + ds.length) = none := hlive.last _ (by omega)
        have hle2 := G.tk_le (b := bb) (e := ee + ds.length * n') (lim := lim) hnone
        refine ⟨.slice (some ad) (els.length + ds.length) cap, w', g1.tk tt (els.length + ds.length) bb (ee + ds.length * n') lim, hrun, ?_, hle1.trans hle2, ?_, (Below.refl B w).grown hgb hm.base (fun k hk => by injection hk with hk; subst hk; exact hlive.base), fun b o hb => ?_⟩
        · rw [show Value.slice (some ad) (els.length + ds.length) cap = Value.slice (some ad) (els ++ ds).length cap by rw [List.length_append]]
          have hrows : ∀ e ∈ els ++ ds, e.row n' = true := fun e he => by
            rcases List.mem_append.1 he with he | he
            · exact hrow e he
            · exact hdrows e he
          refine .sl n' _ (.own k' tt) ad cap (fun i j => if i < els.length then f i j else (cells[(i - els.length) * n' + j]?).getD Go.undef) hs hrows (fun i j hi hj => ?_) (fun i j e c he hc2 => ?_) (by rw [List.length_append]; exact hle) ?_
          · rw [List.length_append] at hi
            by_cases hil : i < els.length
            · rw [if_pos hil]
              exact (hle1.trans hle2).fz _ _ _ (hf1 i j hil hj)
            · rw [if_neg hil]
              have e1 : i * n' + j = els.length * n' + ((i - els.length) * n' + j) := by
                rw [← Nat.add_assoc, ← Nat.add_mul]; congr 2; omega
              have hq : (i - els.length) * n' + j < ds.length * n' := by
                calc (i - els.length) * n' + j < (i - els.length) * n' + n' := by omega
                  _ = (i - els.length + 1) * n' := by rw [Nat.add_mul, Nat.one_mul]
                  _ ≤ ds.length * n' := Nat.mul_le_mul_right n' (by omega)
              show g1.fz ad.block (ad.off + (i * n' + j)) = _
              simp only [g1]
              rw [e1, ← Nat.add_assoc, hbb, hee, if_pos (by refine ⟨?_, ?_, ?_⟩ <;> first | trivial | omega), show ee + ((i - els.length) * n' + j) - ee = (i - els.length) * n' + j by omega]
              have hsz : (i - els.length) * n' + j < cells.size := by rw [← Array.length_toList, hcl]; exact hq
              rw [Array.getElem?_eq_getElem hsz]; rfl
          · by_cases hil : i < els.length
            · rw [List.getElem?_append_left hil] at he
              simp only [if_pos hil]
              exact (hf2 i j e c he hc2).mono (hle1.trans hle2)
            · rw [List.getElem?_append_right (by omega)] at he
              simp only [if_neg hil]
              have hfg := flat_get hdrows (i - els.length) j e c he hc2
              have hlt := (List.getElem?_eq_some_iff.1 hfg).1
              rw [← hcr.1] at hlt
              have hcg : cells.toList[(i - els.length) * n' + j]? = some cells.toList[(i - els.length) * n' + j] := List.getElem?_eq_getElem hlt
              rw [← Array.getElem?_toList, hcg]
              rw [Option.getD_some]
              exact (hcr.2 _ c _ hfg hcg).mono (hle1.trans hle2)
          · simp only [Tok.fits]
            unfold G.tk
            simp only [List.length_append, and_self, if_true]
            refine ⟨hoff, ?_⟩
            rw [hbb, Nat.add_mul, show els.length * n' = ee by omega, show cap * n' = lim by omega]
        · refine Mem.setTk hm1 hnone (s' := { s with lv := setTk k' tt (els.length + ds.length) ety s.lv }) (fun _ q => q) hltn ?_ rfl (hset _) (fun y hy n l => hm.apart _ hmem y hy _ _ _ _ _ hlive.room) (fun e he _ => hother e he)
          exact {
            shp := by rw [hshw]; exact hlive.shp
            room := by unfold G.tk; simp only [and_self, if_true]
            base := hlive.base
            size := Nat.lt_of_lt_of_le hlive.size hgb.size
            quiet := fun o ho => by
              show g1.fz bb o = none
              simp only [g1]
              rw [if_neg (by omega)]
              exact hlive.quiet o (by omega)
            have_ := fun o h4 h5 => by
              rw [hce, if_neg (by omega)]
              exact hlive.have_ o (by omega) h5
            free := fun o h4 h5 => by rw [hfr]; exact hlive.free o (by omega) h5
            last := fun l hl => by
              unfold G.tk; simp only; rw [if_neg (by omega)]
              exact hlive.last l (by omega) }
        · show g1.fz b o = g.fz b o
          simp only [g1]
          rw [if_neg (fun q => by have := hlive.base; omega)]
      · obtain ⟨newCap, vs, w', hrun, hgb, hsz, hcell, hfree, hrows, hr, hc1, hc2, hshp⟩ := hgrow (by omega)
        obtain ⟨g', h1, h2', h3, h4, h5⟩ := fresh_tok' (k := k') (t := tt) (s' := { s with lv := setTk k' tt (els.length + ds.length) ety s.lv }) hm0 hgb hsz hcell (fun o _ => hfree o) hrows hr hc1 hc2 hshp rfl (fun _ q => q) hltn (by rw [List.length_append]; exact hset _) (fun l hl => hlive.last l (by rw [List.length_append] at hl; omega)) (fun e he _ => (hother e he).1)
        exact ⟨_, w', g', hrun, h1, h2', h3, h4, h5⟩
end
end Go.Ev
