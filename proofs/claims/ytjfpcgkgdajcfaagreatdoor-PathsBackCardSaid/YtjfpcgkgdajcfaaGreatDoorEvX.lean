/-
  The operations on the call's own state are sound: rows and rights to append; no condition.
-/
import Derived.Test.YtjfpcgkgdajcfaaGreatDoorEvW
import Derived.IntWalk
namespace Go.Ev
open Go Go.RowKit

section
variable {P : Program} {w : World} {g : G} {x : AV} {s : St} {a : Act} {B : Nat} {o : Oper}
/-- Zeros, as many as one likes. -/
theorem zeros_reps {v : Value} {m N len : Nat} (hrow : (AV.of v).row m = true) (hm : 0 < m) (hN : len * m ≤ N) : Reps g (flat (List.replicate len (AV.of v))) ((((Array.range N).map fun i => v.cells[i % v.cells.size]!).toList).take (len * m)) := by
  obtain ⟨hzl, hzc⟩ := AV.row_iff.1 hrow
  have hzr := ((Rep.of g v).cells hzc).1
  have hzs : v.cells.size = m := by have := hzr.1; rw [Array.length_toList] at this; rw [this]; exact hzl
  have hrep0 : ∀ e ∈ List.replicate len (AV.of v), e.row m = true := fun e he => by rw [(List.mem_replicate.1 he).2]; exact hrow
  refine ⟨by rw [flat_len hrep0]; simp; omega, fun q c y hq hy => ?_⟩
  obtain ⟨e, he1, he2, hmod, hdiv⟩ := flat_inv hm hrep0 hq
  have he3 : e = AV.of v := (List.mem_replicate.1 (List.mem_of_getElem? he1)).2
  subst he3
  have hql := (List.getElem?_eq_some_iff.1 hq).1
  rw [flat_len hrep0, List.length_replicate] at hql
  rw [List.getElem?_take, if_pos hql] at hy
  have hy2 : y = v.cells[q % m]! := by
    have hqN : q < N := by omega
    simp only [Array.toList_map, Array.toList_range, List.getElem?_map, List.getElem?_range hqN, Option.map_some, Option.some.injEq, hzs] at hy
    exact hy.symm
  have hlt : q % m < v.cells.size := by omega
  rw [hy2, getElem!_pos v.cells _ hlt]
  exact hzr.2 (q % m) c _ he2 (by rw [Array.getElem?_toList, Array.getElem?_eq_getElem hlt])
theorem run_askRoom (n : Nat) : (askRoom n).run P w = .ok () w := by
  unfold askRoom; split <;> rfl
theorem bytesOf_parts {t : TypeId} {bs : Nat} (h : bytesOf P t = some bs) : ∃ e i, P.underlying t = some (.slice e) ∧ P.info? e = some i ∧ i.bytes = bs := by
  unfold bytesOf at h
  split at h
  · rw [Option.map_eq_some_iff] at h
    obtain ⟨i, hi, rfl⟩ := h
    exact ⟨_, i, by assumption, hi, rfl⟩
  · cases h
theorem zerE_parts {t e : TypeId} {z : AV} (hu : P.underlying t = some (.slice e)) (h : zerE P t = some z) : ∃ v, (∀ w, (zeroValue e).run P w = .ok v w) ∧ z = .of v := by
  unfold zerE at h
  rw [hu] at h
  simp only at h
  unfold zer at h
  rw [Option.map_eq_some_iff] at h
  obtain ⟨v, hv, rfl⟩ := h
  rw [Option.bind_eq_some_iff] at hv
  obtain ⟨i, hi, hz⟩ := hv
  refine ⟨v, fun w => ?_, rfl⟩
  unfold zeroValue
  rw [run_bind, run_typeInfo hi]
  simp only [hz]
  rfl
/-- A fresh row with a right to append. -/
theorem fresh_tok' {k t n cap : Nat} {ty : TypeId} {els : List AV} {vs : Array Value} {w' : World} {s' : St} (hm : Mem g s w B) (hg : w.grownBy w' none) (hsz : w.heap.size < w'.heap.size) (hcell : ∀ o, w'.cell? ⟨w.heap.size, o, none⟩ = vs[o]?) (hfree : ∀ o, o < cap * n → w'.frozen? ⟨w.heap.size, o, none⟩ = false) (hrows : ∀ e ∈ els, e.row n = true)
    (hr : Reps g (flat els) (vs.toList.take (els.length * n))) (hc : els.length ≤ cap) (hvs : vs.size = cap * n) (hshp : w'.shape? w.heap.size = some (ty, vs.size)) (h1 : s'.hp = s.hp) (h2 : ∀ t, Used s.nx t → Used s'.nx t) (ht : Used s'.nx t) (h3 : s'.lv = setTk k t els.length ty s.lv) (hrm : ∀ l, els.length ≤ l → g.room t l = none) (hf2 : ∀ e ∈ s.lv, e.1 ≠ k → e.2.1 ≠ t) :
    ∃ g', Rep g' (.sl false n els (.own k t)) (.slice (some ⟨w.heap.size, 0, none⟩) els.length cap) ∧ g.le g' ∧ Mem g' s' w' B ∧ Below B w w' ∧ ∀ b o, b < B → g'.fz b o = g.fz b o := by
  have hle1 := G.row_le hm vs (els.length * n)
  have hm1 := hm.row' vs (els.length * n) hg hcell
  have hnone : (g.row w.heap.size vs (els.length * n)).room t els.length = none := hrm _ (Nat.le_refl _)
  have hle2 := G.tk_le (b := w.heap.size) (e := els.length * n) (lim := cap * n) hnone
  have hb := hm.base
  refine ⟨(g.row w.heap.size vs (els.length * n)).tk t els.length w.heap.size (els.length * n) (cap * n), ?_, hle1.trans hle2, ?_, (Below.refl B w).grown hg hb (fun k hk => by cases hk), fun b o hb' => ?_⟩
  · refine Rep.fresh (vs := vs) hrows (hr.mono (hle1.trans hle2)) (fun o ho => ?_) hc ?_
    · unfold G.tk G.row; simp only [if_true, if_pos ho]
    · simp only [Tok.fits]
      unfold G.tk; simp only [and_self, if_true]
  · refine Mem.setTk hm1 hnone h2 ht ?_ h1 h3 (fun x hx n' l => (hm.fresh (Nat.le_refl _)).hp x hx n' l) (fun e he hk => ⟨hf2 e he hk, fun p q => (hm.fresh (Nat.le_refl _)).lv e he p q⟩)
    exact {
      shp := by rw [hshp, hvs]
      room := by unfold G.tk; simp only [and_self, if_true]
      base := hb
      size := hsz
      quiet := fun o ho => by unfold G.tk G.row; simp only [if_true]; rw [if_neg (by omega)]
      have_ := fun o h4 h5 => by
        rw [hcell, Array.getElem?_eq_getElem (by omega)]; rfl
      free := fun o h4 h5 => hfree o h5
      last := fun l hl => by
        unfold G.tk; simp only; rw [if_neg (by omega)]
        exact hrm _ (by omega) }
  · unfold G.tk G.row; simp only; rw [if_neg (by omega)]
theorem fresh_tok {k n cap : Nat} {ty : TypeId} {els : List AV} {vs : Array Value} {w' : World} {s' : St} (hm : Mem g s w B) (hg : w.grownBy w' none) (hsz : w.heap.size < w'.heap.size) (hcell : ∀ o, w'.cell? ⟨w.heap.size, o, none⟩ = vs[o]?) (hfree : ∀ o, o < cap * n → w'.frozen? ⟨w.heap.size, o, none⟩ = false) (hrows : ∀ e ∈ els, e.row n = true)
    (hr : Reps g (flat els) (vs.toList.take (els.length * n))) (hc : els.length ≤ cap) (hvs : vs.size = cap * n) (hshp : w'.shape? w.heap.size = some (ty, vs.size)) (h1 : s'.hp = s.hp) (h2 : s'.nx = bump k s.nx) (h3 : s'.lv = setTk k (s.nw k) els.length ty s.lv) :
    ∃ g', Rep g' (.sl false n els (.own k (s.nw k))) (.slice (some ⟨w.heap.size, 0, none⟩) els.length cap) ∧ g.le g' ∧ Mem g' s' w' B ∧ Below B w w' ∧ ∀ b o, b < B → g'.fz b o = g.fz b o :=
  fresh_tok' hm hg hsz hcell hfree hrows hr hc hvs hshp h1 (fun t q => by rw [h2]; exact q.bump k) (by rw [h2]; exact used_new _ _) h3 (fun l _ => hm.roomN _ _ (not_used _ _)) (fun e he _ q => not_used k s.nx (by have := hm.oldT e he; rw [q] at this; exact this))
theorem makeSlice_run {t : TypeId} {n bs : Nat} {ag : Bool} {z : AV} {l c : Int} {k k' : IntKind} (he : eli P t = some (ag, n)) (hbs : bytesOf P t = some bs) (hz : zerE P t = some z) (hrow : z.row n = true) (hpos : n ≠ 0) (hb : 0 ≤ l ∧ l ≤ c ∧ c.toNat * (bs + 1) ≤ 2 ^ 40) :
    ∃ vs et, (Instr.makeSlice t (.int k l) (.int k' c)).run P w = .ok (.slice (some ⟨w.heap.size, 0, none⟩) l.toNat c.toNat) (w.alloc (.cells vs et)) ∧ P.underlying t = some (.slice et) ∧ vs.size = c.toNat * n ∧ Reps g (flat (List.replicate l.toNat z)) (vs.toList.take (l.toNat * n)) := by
  obtain ⟨et, hu, hty⟩ := eli_parts he
  obtain ⟨et2, i, hu2, hi, hib⟩ := bytesOf_parts hbs
  rw [hu] at hu2; injection hu2 with hu2; injection hu2 with hu2; subst hu2
  obtain ⟨v, hv, rfl⟩ := zerE_parts hu hz
  obtain ⟨hzl, hzc⟩ := AV.row_iff.1 hrow
  have hzr := ((Rep.of g v).cells hzc).1
  have hzs : v.cells.size = n := by have := hzr.1; rw [Array.length_toList] at this; rw [this]; exact hzl
  have hcb : c.toNat ≤ c.toNat * (bs + 1) := Nat.le_mul_of_pos_right _ (by omega)
  have hcb2 : bs * c.toNat ≤ c.toNat * (bs + 1) := by rw [Nat.mul_comm]; exact Nat.mul_le_mul_left _ (by omega)
  have hc62 : c ≤ 2 ^ 40 := by omega
  have hwl := IntWalk.i64_in l (by omega)
  have hwc := IntWalk.i64_in c (by omega)
  have hbc : ¬ ((bs : Int) * c > 2 ^ 48) := by
    have : (bs : Int) * c = ((bs * c.toNat : Nat) : Int) := by
      rw [Int.natCast_mul, Int.toNat_of_nonneg (by omega)]
    rw [this]; omega
  let zero : Array Value := if c.toNat * n = 0 then #[] else v.cells
  refine ⟨(Array.range (c.toNat * n)).map fun i => zero[i % zero.size]!, et, ?_, hu, by simp, ?_⟩
  · unfold Instr.makeSlice
    rw [run_bind, run_underlying hu]
    simp only
    rw [run_bind]
    simp only [asInt]
    rw [run_bind, run_asIntOf]
    simp only [run_pure]
    rw [run_bind, run_bind, run_asIntOf]
    simp only [run_pure]
    rw [run_bind, run_typeInfo hi]
    simp only [hwl, hwc, hib]
    rw [if_neg (by simp only [Bool.or_eq_true, decide_eq_true_eq]; omega)]
    rw [run_bind, run_askRoom]
    simp only
    rw [run_bind, run_sizeOf hty]
    simp only
    by_cases h0 : c.toNat * n = 0
    · rw [if_pos h0]
      simp only [zero, if_pos h0]
      rfl
    · rw [if_neg h0, run_bind, hv]
      simp only [zero, if_neg h0]
      rfl
  · by_cases h0 : c.toNat * n = 0
    · have hc0 : c.toNat = 0 := by
        rcases Nat.mul_eq_zero.1 h0 with h | h
        · exact h
        · exact absurd h hpos
      have hl0 : l.toNat = 0 := by omega
      rw [hl0]
      simp only [List.replicate_zero, Nat.zero_mul, List.take_zero]
      exact .nil g
    · simp only [zero, if_neg h0]
      exact zeros_reps hrow (by omega) (Nat.mul_le_mul_right n (by omega))
theorem replicate_rows {n m : Nat} {z : AV} (h : z.row n = true) : ∀ e ∈ List.replicate m z, e.row n = true := fun e he => by rw [(List.mem_replicate.1 he).2]; exact h
/-- A fresh row of our own. -/
theorem fresh_row {k n cap : Nat} {ty : TypeId} {els : List AV} {vs : Array Value} {w' : World} {full : Bool} (hm : Mem g s w B) (hg : w.grownBy w' none) (hsz : w.heap.size < w'.heap.size) (hcell : ∀ o, w'.cell? ⟨w.heap.size, o, none⟩ = vs[o]?) (hfree : ∀ o, o < cap * n → w'.frozen? ⟨w.heap.size, o, none⟩ = false) (hrows : ∀ e ∈ els, e.row n = true)
    (hr : Reps g (flat els) (vs.toList.take (els.length * n))) (hc : els.length ≤ cap) (hvs : vs.size = cap * n) (hshp : w'.shape? w.heap.size = some (ty, vs.size)) (hn : 0 < n) (hf : full = true → cap = els.length) :
    ∃ g', Rep g' (.hs k (s.nw k) n 0 els.length full) (.slice (some ⟨w.heap.size, 0, none⟩) els.length cap) ∧ g.le g' ∧ Mem g' (newBlk s k n els ty false) w' B ∧ Below B w w' ∧ ∀ b o, b < B → g'.fz b o = g.fz b o := by
  let bk : Blk := { k, g := s.nw k, n, els, ty, va := false }
  have hm1 : Mem g s w' B := hm.grow (.refl g) rfl rfl (fun _ _ _ => rfl) hg (fun b o v hb hv => absurd (cell_lt (hm.held _ _ _ hv)) (by omega))
  have hle : g.le (g.var bk.g w.heap.size bk.n (cap * n)) := G.var_le (hm.etaN _ (not_used _ _))
  have hlen := flat_len hrows
  have how : Own (g.var bk.g w.heap.size bk.n (cap * n)) w' B bk w.heap.size (cap * n) := {
    eta := by unfold G.var; simp only [if_true]
    base := hm.base
    size := hsz
    pos := hn
    fit := Nat.mul_le_mul_right n hc
    rows := hrows
    have_ := fun o ho => by rw [hcell, Array.getElem?_eq_getElem (by omega)]; rfl
    free := hfree
    cell := fun i j e c he hc2 => by
      have hfg := flat_get hrows i j e c he hc2
      have hlt := (List.getElem?_eq_some_iff.1 hfg).1
      rw [hlen] at hlt
      have hle2 : els.length * n ≤ cap * n := Nat.mul_le_mul_right n hc
      have hv : vs[i * n + j]? = some vs[i * n + j] := Array.getElem?_eq_getElem (by omega)
      refine ⟨_, by rw [hcell]; exact hv, ?_⟩
      exact (hr.2 (i * n + j) c _ hfg (by rw [List.getElem?_take, if_pos hlt, Array.getElem?_toList, hv])).mono hle
    shp := by rw [hshp, hvs]
    whole := fun h => by cases h
    live := fun _ o => hm.fz_new (Nat.le_refl _) o
    held := fun h => by cases h }
  refine ⟨g.var bk.g w.heap.size bk.n (cap * n), ?_, hle, hm1.addBlk (x := bk) rfl how ⟨fun y hy n l => (hm.fresh (Nat.le_refl _)).hp y hy n l, fun e he p q => (hm.fresh (Nat.le_refl _)).lv e he p q⟩ rfl rfl rfl, (Below.refl B w).grown hg hm.base (fun k hk => by cases hk), fun _ _ _ => rfl⟩
  have := Rep.hs (g := g.var bk.g w.heap.size bk.n (cap * n)) k (s.nw k) n 0 els.length full w.heap.size (cap * n) cap how.eta hc (by rw [Nat.zero_add]; exact Nat.le_refl _) hf
  rw [Nat.zero_mul] at this
  exact this
theorem run_choose_cap {need old : Nat} {e : TypeId} : ∃ cap, need ≤ cap ∧ (choose (.appendCap need old e)).run P w = .ok cap w.drew := by
  refine ⟨(Question.appendCap need old e).cut (w.tape w.drawn (.appendCap need old e)), ?_, ?_⟩
  · simp only [Question.cut]; omega
  · unfold choose
    simp only [Sem.run, Question.forced, Bool.false_eq_true, if_false]
    rfl
/-- A string's bytes, in a row of their own. -/
theorem toBytes_run {e : TypeId} {b : ByteArray} : ∃ (vs : Array Value) (cap : Nat) (w' : World), (Conv.stringToBytes e b).run P w = .ok (.slice (some ⟨w.heap.size, 0, none⟩) b.size cap) w' ∧ w.grownBy w' none ∧ w.heap.size < w'.heap.size ∧ (∀ o, w'.cell? ⟨w.heap.size, o, none⟩ = vs[o]?) ∧
    (∀ o, o < cap → w'.frozen? ⟨w.heap.size, o, none⟩ = false) ∧ b.size ≤ cap ∧ vs.size = cap ∧ w'.shape? w.heap.size = some (e, vs.size) ∧ Reps g (ofBytes b.data.toList) (vs.toList.take b.size) := by
  obtain ⟨cap, hcap, hrun⟩ := run_choose_cap (P := P) (w := w) (need := b.size) (old := 0) (e := e)
  let vs : Array Value := b.data.map (fun b => Value.int .u8 b.toNat) ++ Array.replicate (cap - b.size) (.int .u8 0)
  have hvs : vs.size = cap := by
    have : b.data.size = b.size := rfl
    simp [vs]; omega
  let w1 : World := w.drew.alloc (.cells vs e)
  have hb1 : w1.heap[w.heap.size]? = some (.cells vs e) := by
    show (w.heap.push (.cells vs e))[w.heap.size]? = _
    simp
  have hsh : w1.shape? w.heap.size = some (e, vs.size) := by unfold World.shape?; rw [hb1]
  let w2 : World := w1.freeze ⟨w.heap.size, vs.size, none⟩ 1
  have hb2 : w2.heap[w.heap.size]? = some (.cells vs e (vs.size, vs.size + 1)) := by
    simp only [w2, World.freeze]
    rw [if_neg (by omega)]
    simp only [Array.getElem?_modify, if_true, hb1, Option.map_some]
    rfl
  refine ⟨vs, cap, w2, ?_, ⟨rfl, rfl, rfl, ?_, fun k hk _ => ?_⟩, ?_, fun o => ?_, fun o ho => ?_, hcap, hvs, by unfold World.shape?; rw [hb2], ?_⟩
  · unfold Conv.stringToBytes
    rw [run_bind, hrun]
    simp only
    rw [run_bind]
    have hnew : (newRow e (b.data.map (fun b => Value.int .u8 b.toNat) ++ Array.replicate (cap - b.size) (.int .u8 0))).run P w.drew = .ok ⟨w.heap.size, 0, none⟩ w1 := rfl
    rw [hnew]
    simp only
    rw [run_bind]
    have hmark : (markStringish ⟨w.heap.size, 0, none⟩).run P w1 = .ok () w2 := by
      unfold markStringish
      rw [run_bind]
      have : (shape w.heap.size).run P w1 = .ok (some (e, vs.size)) w1 := by
        unfold shape; simp only [Sem.run, hsh]
      rw [this]
      rfl
    rw [hmark]
    rfl
  · simp only [w2, World.freeze]
    rw [if_neg (by omega)]
    show _ ≤ (Array.modify (w.heap.push (.cells vs e)) _ _).size
    simp
  · simp only [w2, World.freeze]
    rw [if_neg (by omega)]
    simp only [Array.getElem?_modify]
    rw [if_neg (by omega)]
    exact Below.heap_alloc w.drew _ k hk
  · simp only [w2, World.freeze]
    rw [if_neg (by omega)]
    show _ ≤ (Array.modify (w.heap.push (.cells vs e)) _ _).size
    simp
  · unfold World.cell?; rw [hb2]; rfl
  · unfold World.frozen?; rw [hb2]
    simp only [Bool.and_eq_false_imp, decide_eq_true_eq, decide_eq_false_iff_not]
    omega
  · have hl : b.data.toList.length = b.size := size_data b
    refine ⟨by simp [ofBytes, vs], fun i c y hc hy => ?_⟩
    unfold ofBytes at hc
    rw [List.getElem?_map, Option.map_eq_some_iff] at hc
    obtain ⟨q, hq, rfl⟩ := hc
    have hi : i < b.size := by rw [← hl]; exact (List.getElem?_eq_some_iff.1 hq).1
    rw [List.getElem?_take, if_pos hi] at hy
    have : y = .int .u8 q.toNat := by
      simp only [vs, Array.toList_append, Array.toList_map] at hy
      rw [List.getElem?_append_left (by simp; exact hi), List.getElem?_map, hq] at hy
      injection hy with hy; exact hy.symm
    subst this
    exact .int _ _
theorem ofBytes_rows (l : List UInt8) : ∀ e ∈ ofBytes l, e.row 1 = true := fun e he => by
  obtain ⟨b, _, rfl⟩ := List.mem_map.1 he
  rfl
theorem flat_ofBytes (l : List UInt8) : flat (ofBytes l) = ofBytes l := by
  induction l with
  | nil => rfl
  | cons b l ih =>
    show AV.cells (.int .u8 b.toNat) ++ flat (ofBytes l) = _
    rw [ih]; rfl
/-- What is appended: how many, and the cells. -/
theorem run_appended {n : Nat} {y : AV} {z : Value} {ds : List AV} (hfz : ∀ b o v, g.fz b o = some v → w.cell? ⟨b, o, none⟩ = some v) (hy : Rep g y z) (h : elemsOf n y = some ds) :
    (∀ w : World, (Builtin.lenOf z).run P w = .ok ds.length w) ∧ (∀ e ∈ ds, e.row n = true) ∧ ∃ cells, (Builtin.firstCells n ds.length z).run P w = .ok cells w ∧ Reps g (flat ds) cells.toList := by
  unfold elemsOf at h
  split at h
  · rename_i nl n' els tok
    obtain ⟨hc, h⟩ := bif_some h
    injection h with h; subst h
    cases hy with
    | slNil => exact ⟨fun _ => rfl, fun e he => (by cases he), #[], rfl, Reps.nil g⟩
    | sl _ _ _ ad cap f hs hrow hf1 hf2 hcap ht =>
      refine ⟨fun _ => rfl, ?_, ?_⟩
      · intro e he
        rw [Bool.or_eq_true] at hc
        rcases hc with hc | hc
        · have : els = [] := by simpa using hc
          subst this; cases he
        · have : n' = n := by simpa using hc
          subst this; exact hrow e he
      · by_cases hne : els = []
        · subst hne
          refine ⟨#[], ?_, Reps.nil g⟩
          unfold Builtin.firstCells
          simp only [List.length_nil, Nat.zero_mul]
          rfl
        · have hn : n' = n := by
            rw [Bool.or_eq_true] at hc
            rcases hc with hc | hc
            · exact absurd (by simpa using hc) hne
            · simpa using hc
          subst hn
          have hlen := flat_len hrow
          have hinv : ∀ q, q < els.length * n' → ∃ e c, els[q / n']? = some e ∧ e.cells[q % n']? = some c ∧ q % n' < n' ∧ q / n' < els.length ∧ (flat els)[q]? = some c := fun q hq => by
            have hpos : 0 < n' := by
              rcases Nat.eq_zero_or_pos n' with h0 | h0
              · subst h0; simp at hq
              · exact h0
            have hfq : (flat els)[q]? = some (flat els)[q] := List.getElem?_eq_getElem (by omega)
            obtain ⟨e, h1, h2, h3, h4⟩ := flat_inv hpos hrow hfq
            exact ⟨e, _, h1, h2, h3, h4, hfq⟩
          let ff : Nat → Value := fun q => f (q / n') (q % n')
          have hcell : ∀ j, j < els.length * n' → w.cell? (ad.add j) = some (ff j) := fun j hj => by
            obtain ⟨e, c, h1, h2, h3, h4, _⟩ := hinv j hj
            rw [add_addr ad hs]
            have := hf1 (j / n') (j % n') h4 h3
            rw [show j / n' * n' + j % n' = j by rw [Nat.mul_comm]; exact Nat.div_add_mod j n'] at this
            exact hfz _ _ _ this
          refine ⟨((List.range (els.length * n')).map ff).toArray, ?_, ?_⟩
          · unfold Builtin.firstCells
            exact run_loadCells ad ff (els.length * n') hcell
          · refine ⟨by simp [hlen], fun q c v hq hv => ?_⟩
            have hlt : q < els.length * n' := by rw [← hlen]; exact (List.getElem?_eq_some_iff.1 hq).1
            obtain ⟨e, c', h1, h2, h3, h4, h5⟩ := hinv q hlt
            rw [hq] at h5; injection h5 with h5; subst h5
            simp only [List.getElem?_map, List.getElem?_range hlt, Option.map_some, Option.some.injEq] at hv
            subst hv
            exact hf2 _ _ _ _ h1 h2
  · rename_i l
    obtain ⟨hc, h⟩ := bif_some h
    injection h with h; subst h
    have hn : n = 1 := by simpa using hc
    subst hn
    obtain ⟨b, rfl, rfl⟩ := str_rep hy
    refine ⟨fun w => ?_, ofBytes_rows _, ?_⟩
    · unfold Builtin.lenOf
      simp only [ofBytes, List.length_map, size_data]
      rfl
    · refine ⟨_, rfl, ?_⟩
      rw [flat_ofBytes]
      unfold ofBytes
      refine ⟨by simp, fun i c v hc hv => ?_⟩
      rw [List.getElem?_map, Option.map_eq_some_iff] at hc
      obtain ⟨q, hq, rfl⟩ := hc
      have hi : i < b.data.toList.length := (List.getElem?_eq_some_iff.1 hq).1
      have : v = .int .u8 q.toNat := by
        have hex : (b.extract 0 (List.map (fun b => AV.int .u8 b.toNat) b.data.toList).length) = b := by
          rw [List.length_map, size_data]
          exact ByteArray.extract_zero_size
        simp only [hex, Array.toList_map, List.getElem?_map, hq, Option.map_some, Option.some.injEq] at hv
        exact hv.symm
      subst this
      exact .int _ _
  · cases h
end
end Go.Ev
