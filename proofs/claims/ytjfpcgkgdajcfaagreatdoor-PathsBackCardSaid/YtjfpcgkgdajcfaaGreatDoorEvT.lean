/-
  The operations that do not look at the call's own state are sound: structs, conversions, comparisons, lengths; no condition.
-/
import Derived.Test.YtjfpcgkgdajcfaaGreatDoorEvS
namespace Go.Ev
open Go Go.RowKit

theorem setAll (vs : List Value) : ∀ (k off : Nat) (cells : Array Value), off + k + vs.length ≤ cells.size →
    ((vs.zipIdx k).foldl (fun cs (p : Value × Nat) => cs.setIfInBounds (off + p.2) p.1) cells).toList = cells.toList.take (off + k) ++ vs ++ cells.toList.drop (off + k + vs.length) := by
  induction vs with
  | nil => intro k off cells _; simp
  | cons v vs ih =>
    intro k off cells h
    rw [List.zipIdx_cons, List.foldl_cons]
    simp only [List.length_cons] at h
    rw [ih (k + 1) off _ (by simp; omega), Array.toList_setIfInBounds]
    have hl : off + k < cells.toList.length := by simp; omega
    have hA : (cells.toList.set (off + k) v).take (off + (k + 1)) = cells.toList.take (off + k) ++ [v] := by
      rw [show off + (k + 1) = off + k + 1 by omega, List.take_add_one, List.getElem?_set_self hl, List.take_set_of_le (Nat.le_refl _)]
      rfl
    have hB : (cells.toList.set (off + k) v).drop (off + (k + 1) + vs.length) = cells.toList.drop (off + k + (vs.length + 1)) := by
      rw [List.drop_set_of_lt (by omega)]
      congr 1
      omega
    rw [hA, hB, List.length_cons]
    simp
theorem bind_assoc' {α β γ : Type} (x : Sem α) (f : α → Sem β) (h : β → Sem γ) : (x.bind f).bind h = x.bind fun a => (f a).bind h := by
  induction x with
  | pure a => rfl
  | store m a v k ih => simp only [Sem.bind, ih]
  | freeze a n k ih => simp only [Sem.bind, ih]
  | setObj r o k ih => simp only [Sem.bind, ih]
  | mark m k ih => simp only [Sem.bind, ih]
  | halt h => rfl
  | _ => simp only [Sem.bind, *]
theorem bind_pure' {α : Type} (x : Sem α) : x.bind Sem.pure = x := by
  induction x with
  | pure a => rfl
  | halt h => rfl
  | _ => simp only [Sem.bind, *]
instance : LawfulMonad Sem := LawfulMonad.mk' Sem (fun x => bind_pure' x) (fun _ _ => rfl) (fun x f h => bind_assoc' x f h)
section
variable {P : Program} {w : World} {g : G} {x : AV}
theorem fill_sound (place : Nat → Option (Nat × Nat)) :
    ∀ (l : List (Nat × AV)) (l' : List (Nat × Value)) (cells : List AV) (vcells : Array Value) (cs : List AV), l'.map (·.1) = l.map (·.1) → Reps g (l.map (·.2)) (l'.map (·.2)) → Reps g cells vcells.toList →
      fill cells (l.map fun p => (place p.1, p.2)) = some cs → ∃ vs, Instr.fill place vcells l' = some vs ∧ Reps g cs vs.toList := by
  intro l
  induction l with
  | nil =>
    intro l' cells vcells cs hi hr h hf
    have : l' = [] := by simpa using hi
    subst this
    simp only [List.map_nil, fill, Option.some.injEq] at hf
    subst hf
    exact ⟨vcells, rfl, h⟩
  | cons p l ih =>
    intro l' cells vcells cs hi hr h hf
    obtain ⟨i, y⟩ := p
    cases l' with
    | nil => simp at hi
    | cons p' l' =>
    obtain ⟨i', y'⟩ := p'
    simp only [List.map_cons, List.cons.injEq] at hi
    obtain ⟨rfl, hi⟩ := hi
    rw [List.map_cons, List.map_cons] at hr
    obtain ⟨y0, l0, he, hy, hr⟩ := hr.inv
    simp only [List.cons.injEq] at he
    obtain ⟨rfl, rfl⟩ := he
    simp only [List.map_cons, fill] at hf
    split at hf
    · cases hf
    · rename_i off size hp
      obtain ⟨hc, hf⟩ := bif_some hf
      rw [Bool.and_eq_true] at hc
      obtain ⟨hrow, hle⟩ := hc
      have hle := Nat.le_of_ble_eq_true hle
      obtain ⟨hlen, hall⟩ := AV.row_iff.1 hrow
      have hcell := (hy.cells hall).1
      have hl1 : y'.cells.size = size := by have := hcell.1; rw [Array.length_toList] at this; rw [this]; exact hlen
      have hl2 : vcells.size = cells.length := by have := h.1; rw [Array.length_toList] at this; exact this
      simp only [Instr.fill, hp]
      rw [if_neg (by simp [hl1]; omega)]
      refine ih _ _ _ cs hi hr ?_ hf
      have hset := setAll y'.cells.toList 0 off vcells (by rw [Array.length_toList]; omega)
      rw [Nat.add_zero, Array.length_toList, hl1] at hset
      have e : (Array.foldl (fun (cs : Array Value) (x : Value × Nat) => cs.setIfInBounds (off + x.2) x.1) vcells y'.cells.zipIdx).toList = vcells.toList.take off ++ y'.cells.toList ++ vcells.toList.drop (off + size) := by
        rw [← hset, ← Array.foldl_toList, Array.toList_zipIdx]
      have hgoal : Reps g (cells.take off ++ y.cells ++ cells.drop (off + size)) (vcells.toList.take off ++ y'.cells.toList ++ vcells.toList.drop (off + size)) :=
        ((h.takes off).app hcell).app (h.drops (off + size))
      rw [← e] at hgoal
      exact hgoal
theorem run_mapM {α β : Type} {P : Program} {w : World} (f : α → Sem β) (q : α → Option β) (hf : ∀ a b, q a = some b → (f a).run P w = .ok b w) :
    ∀ (l : List α) (r : List β), l.mapM q = some r → (l.mapM f).run P w = .ok r w := by
  intro l
  induction l with
  | nil => intro r h; simp at h; subst h; rfl
  | cons a l ih =>
    intro r h
    simp only [List.mapM_cons, Option.pure_def, Option.bind_eq_bind, Option.bind_eq_some_iff] at h
    obtain ⟨b, hb, r', hr', e⟩ := h
    injection e with e
    subst e
    rw [List.mapM_cons, run_bind, hf a b hb]
    simp only
    rw [run_bind, ih r' hr']
    rfl
theorem run_mapM_arr {α β : Type} {P : Program} {w : World} (f : α → Sem β) (q : α → Option β) (hf : ∀ a b, q a = some b → (f a).run P w = .ok b w)
    (l : Array α) (r : List β) (h : l.toList.mapM q = some r) : (l.mapM f).run P w = .ok r.toArray w := by
  rw [Array.mapM_eq_mapM_toList]
  show (List.toArray <$> l.toList.mapM f : Sem (Array β)).run P w = _
  rw [← bind_pure_comp, run_bind, run_mapM f q hf l.toList r h]
  rfl
theorem run_zero {t : TypeId} {z : AV} (h : zer P t = some z) : ∃ v, (zeroValue t).run P w = .ok v w ∧ z = .of v := by
  unfold zer at h
  rw [Option.map_eq_some_iff] at h
  obtain ⟨v, hv, rfl⟩ := h
  rw [Option.bind_eq_some_iff] at hv
  obtain ⟨i, hi, hz⟩ := hv
  refine ⟨v, ?_, rfl⟩
  unfold zeroValue
  rw [run_bind, run_typeInfo hi]
  simp only [hz]
  rfl
theorem plc_parts {t : TypeId} {pl : List (Nat × Nat)} (h : plc P t = some pl) : ∃ fs, P.underlying t = some (.struct fs) ∧ fs.toList.mapM (fun f => (tyi P f.type).map fun y => (f.offset, y.2)) = some pl := by
  unfold plc at h
  split at h
  · exact ⟨_, by assumption, h⟩
  · cases h
theorem y_build {t : TypeId} {l : List (Nat × AV)} {l' : Array (Nat × Value)} (hi : l'.toList.map (·.1) = l.map (·.1)) (hr : Reps g (l.map (·.2)) (l'.toList.map (·.2))) (hx : build P t l = some x) : Yld P g w (Instr.build t l') x := by
  unfold build at hx
  rw [Option.bind_eq_some_iff] at hx
  obtain ⟨z, hz, hx⟩ := hx
  obtain ⟨hall, hx⟩ := bif_some hx
  obtain ⟨v, hv, rfl⟩ := run_zero (w := w) hz
  have hcells := ((Rep.of g v).cells hall).1
  split at hx
  · rename_i len ag n ha
    obtain ⟨et, hu, hty⟩ := ari_parts ha
    rw [Option.map_eq_some_iff] at hx
    obtain ⟨cs, hcs, rfl⟩ := hx
    obtain ⟨vs, hvs, hrep⟩ := fill_sound (fun i => some (i * n, n)) l l'.toList _ v.cells cs hi hr hcells hcs
    refine ⟨.agg vs, ?_, hrep.agg⟩
    unfold Instr.build
    rw [run_bind, hv]
    simp only
    rw [run_bind, run_underlying hu]
    simp only
    rw [run_bind, run_sizeOf hty]
    simp only
    rw [hvs]
    rfl
  · rw [Option.bind_eq_some_iff] at hx
    obtain ⟨pl, hpl, hx⟩ := hx
    obtain ⟨fs, hu, hpl⟩ := plc_parts hpl
    rw [Option.map_eq_some_iff] at hx
    obtain ⟨cs, hcs, rfl⟩ := hx
    obtain ⟨vs, hvs, hrep⟩ := fill_sound (fun i => pl[i]?) l l'.toList _ v.cells cs hi hr hcells hcs
    refine ⟨.agg vs, ?_, hrep.agg⟩
    unfold Instr.build
    rw [run_bind, hv]
    simp only
    rw [run_bind, run_underlying hu]
    simp only
    rw [run_bind, run_mapM_arr _ (fun f => (tyi P f.type).map fun y => (f.offset, y.2)) (fun f b hb => by
      rw [Option.map_eq_some_iff] at hb
      obtain ⟨y, hy, rfl⟩ := hb
      obtain ⟨ag, n⟩ := y
      rw [run_bind, run_sizeOf hy]; rfl) fs pl hpl]
    simp only [List.getElem?_toArray]
    rw [hvs]
    rfl
theorem convK_int {a b : TypeId} {k : IntKind} (h : convK P a b = .int k) : ∃ k', P.underlying a = some (.int k') ∧ P.underlying b = some (.int k) := by
  unfold convK at h
  split at h <;> first
    | (cases h; done)
    | (injection h with h; subst h; exact ⟨_, by assumption, by assumption⟩)
    | (split at h <;> cases h)
theorem convK_str {a b : TypeId} (h : convK P a b = .str) : P.underlying a = some .string ∧ P.underlying b = some .string := by
  unfold convK at h
  split at h <;> first
    | (cases h; done)
    | exact ⟨by assumption, by assumption⟩
    | (split at h <;> cases h)
theorem convK_toStr {a b : TypeId} (h : convK P a b = .toStr) : ∃ e, P.underlying a = some (.slice e) ∧ P.underlying b = some .string ∧ P.underlying e = some (.int .u8) := by
  unfold convK at h
  split at h <;> first
    | (cases h; done)
    | (split at h <;> first | (cases h; done) | exact ⟨_, by assumption, by assumption, by assumption⟩)
theorem convK_toBytes {a b : TypeId} (h : convK P a b = .toBytes) : ∃ e, P.underlying a = some .string ∧ P.underlying b = some (.slice e) ∧ P.underlying e = some (.int .u8) := by
  unfold convK at h
  split at h <;> first
    | (cases h; done)
    | (split at h <;> first | (cases h; done) | exact ⟨_, by assumption, by assumption, by assumption⟩)
theorem convK_rune {a b : TypeId} (h : convK P a b = .rune) : ∃ k, P.underlying a = some (.int k) ∧ P.underlying b = some .string := by
  unfold convK at h
  split at h <;> first
    | (cases h; done)
    | exact ⟨_, by assumption, by assumption⟩
    | (split at h <;> cases h)
theorem encode_low {n : Int} (h0 : 0 ≤ n) (h1 : n < 128) : (Utf8.encode n).data.toList = [UInt8.ofNat n.toNat] := by
  have hv : Utf8.valid n = true := by
    unfold Utf8.valid
    simp only [Bool.or_eq_true, Bool.and_eq_true, decide_eq_true_eq]
    omega
  have hc : n.toNat < 0x80 := by omega
  unfold Utf8.encode
  simp only [hv, if_true, hc]
theorem bytes_rep : ∀ (els : List AV) (l : List UInt8), bytes els = some l → els.length = l.length ∧ ∀ (i : Nat) (e : AV), els[i]? = some e → ∃ n : Int, e = .int .u8 n ∧ l[i]? = some (UInt8.ofNat n.toNat) := by
  intro els
  induction els with
  | nil => intro l h; simp only [bytes] at h; injection h with h; subst h; exact ⟨rfl, fun i e he => by simp at he⟩
  | cons y els ih =>
    intro l h
    unfold bytes at h
    split at h
    · rename_i e; cases e
    · rename_i n r e
      injection e with e1 e2
      subst e1; subst e2
      rw [Option.map_eq_some_iff] at h
      obtain ⟨l', hl, rfl⟩ := h
      obtain ⟨h1, h2⟩ := ih l' hl
      refine ⟨by simp [h1], fun i e he => ?_⟩
      cases i with
      | zero => simp at he; subst he; exact ⟨n, rfl, rfl⟩
      | succ i => exact h2 i e (by simpa using he)
    · cases h
theorem run_forIn_bytes (P : Program) (w : World) (body : Value → ByteArray → Sem (ForInStep ByteArray)) (hb : ∀ (n : Int) (s : ByteArray), body (.int .u8 n) s = pure (.yield (s.push (UInt8.ofNat n.toNat)))) :
    ∀ (vs : List Value) (l : List UInt8) (s : ByteArray), vs.length = l.length → (∀ (i : Nat) (v : Value), vs[i]? = some v → ∃ n : Int, v = .int .u8 n ∧ l[i]? = some (UInt8.ofNat n.toNat)) →
    ∃ r, (forIn vs s body).run P w = .ok r w ∧ r.data.toList = s.data.toList ++ l := by
  intro vs
  induction vs with
  | nil =>
    intro l s hl _
    have : l = [] := by cases l <;> simp_all
    subst this
    exact ⟨s, rfl, by simp⟩
  | cons v vs ih =>
    intro l s hl h
    cases l with
    | nil => simp at hl
    | cons c l =>
    obtain ⟨n, rfl, hc⟩ := h 0 v rfl
    simp only [List.getElem?_cons_zero, Option.some.injEq] at hc
    subst hc
    rw [List.forIn_cons, run_bind, hb]
    simp only [run_pure]
    obtain ⟨r, h1, h2⟩ := ih l (s.push (UInt8.ofNat n.toNat)) (by simpa using hl) (fun i v hv => by simpa using h (i + 1) v (by simpa using hv))
    refine ⟨r, h1, ?_⟩
    rw [h2]
    simp
theorem forIn_string {vs : List Value} {l : List UInt8} {body : Value → ByteArray → Sem (ForInStep ByteArray)} (h : ∃ r, (forIn vs ByteArray.empty body).run P w = .ok r w ∧ r.data.toList = ByteArray.empty.data.toList ++ l) :
    ∃ r, (forIn vs ByteArray.empty body >>= fun s => pure (Value.string s)).run P w = .ok (.string r) w ∧ r.data.toList = l := by
  obtain ⟨r, h1, h2⟩ := h
  exact ⟨r, by rw [run_bind, h1]; rfl, h2⟩
theorem y_conv {a b : TypeId} {y : AV} {z : Value} (hz : Rep g y z) (hw : ∀ b o v, g.fz b o = some v → w.cell? ⟨b, o, none⟩ = some v) (hx : conv P a b y = some x) : Yld P g w (convert a b z) x := by
  unfold conv at hx
  split at hx
  · rename_i k k' n hk
    obtain ⟨k2, h1, h2⟩ := convK_int hk
    obtain rfl := int_rep hz
    injection hx with hx; subst hx
    refine ⟨_, ?_, .int _ _⟩
    unfold convert
    rw [run_bind, run_underlying h1]
    simp only
    rw [run_bind, run_underlying h2]
    rfl
  · rename_i l hk
    obtain ⟨h1, h2⟩ := convK_str hk
    obtain ⟨s, rfl, rfl⟩ := str_rep hz
    injection hx with hx; subst hx
    refine ⟨_, ?_, .str _ s rfl⟩
    unfold convert
    rw [run_bind, run_underlying h1]
    simp only
    rw [run_bind, run_underlying h2]
    rfl
  · rename_i k' n hk
    obtain ⟨k, h1, h2⟩ := convK_rune hk
    obtain rfl := int_rep hz
    unfold cnd at hx
    split at hx
    · rename_i hd
      injection hx with hx; subst hx
      have hd := of_decide_eq_true hd
      refine ⟨.string (Utf8.encode n), ?_, .str _ _ (encode_low hd.1 hd.2)⟩
      unfold convert
      rw [run_bind, run_underlying h1]
      simp only
      rw [run_bind, run_underlying h2]
      rfl
    · cases hx
  · rename_i nl n els tok hk
    obtain ⟨e, h1, h2, h3⟩ := convK_toStr hk
    rw [Option.map_eq_some_iff] at hx
    obtain ⟨l, hl, rfl⟩ := hx
    obtain ⟨hlen, hb⟩ := bytes_rep els l hl
    have hgo : ∀ r, (Conv.bytesToString z).run P w = r → (convert a b z).run P w = r := by
      intro r hr
      unfold convert
      rw [run_bind, run_underlying h1]
      simp only
      rw [run_bind, run_underlying h2]
      cases hz with
      | slNil =>
        simp only
        rw [run_bind, run_underlying h3]
        exact hr
      | sl =>
        simp only
        rw [run_bind, run_underlying h3]
        exact hr
    cases hz with
    | slNil =>
      have : l = [] := by cases l <;> simp_all
      subst this
      exact ⟨_, hgo _ rfl, .str _ _ rfl⟩
    | sl _ _ _ ad cap f hs hrow hf1 hf2 hc ht =>
      have hn1 : ∀ i, i < els.length → n = 1 ∧ ∃ k : Int, els[i]? = some (.int .u8 k) := fun i hi => by
        obtain ⟨k, he, _⟩ := hb i _ (List.getElem?_eq_getElem hi)
        have := (AV.row_iff.1 (hrow _ (List.getElem_mem hi))).1
        rw [he] at this
        exact ⟨this.symm, k, by rw [List.getElem?_eq_getElem hi, he]⟩
      have hcell : ∀ j, j < els.length → w.cell? (ad.add j) = some (f j 0) := fun j hj => by
        have h4 := hf1 j 0 hj (by have := (hn1 j hj).1; omega)
        rw [(hn1 j hj).1] at h4
        rw [add_addr ad hs]
        have := hw _ _ _ h4
        simpa using this
      have hload := run_loadCells (P := P) ad (fun j => f j 0) els.length hcell
      have hbytes := fun body hbody => run_forIn_bytes P w body hbody ((List.range els.length).map fun j => f j 0) l ByteArray.empty (by simp [hlen]) (fun i v hv => by
        rw [List.getElem?_map] at hv
        rw [Option.map_eq_some_iff] at hv
        obtain ⟨j, hj, rfl⟩ := hv
        obtain ⟨hji, rfl⟩ : i < els.length ∧ j = i := by
          have hlt : i < (List.range els.length).length := (List.getElem?_eq_some_iff.1 hj).1
          rw [List.length_range] at hlt
          rw [List.getElem?_range hlt] at hj
          injection hj with hj
          exact ⟨hlt, hj.symm⟩
        obtain ⟨k, he, hc2⟩ := hb j _ (List.getElem?_eq_getElem hji)
        have hr := hf2 j 0 _ (.int .u8 k) (List.getElem?_eq_getElem hji) (by rw [he]; rfl)
        exact ⟨k, int_rep hr, hc2⟩)
      have key : ∃ r, (Conv.bytesToString (.slice (some ad) els.length cap)).run P w = .ok (.string r) w ∧ r.data.toList = l := by
        unfold Conv.bytesToString
        simp only
        rw [run_bind, hload]
        simp only
        rw [List.forIn_toArray]
        exact forIn_string (hbytes _ (fun n s => rfl))
      obtain ⟨r, hr1, hr2⟩ := key
      exact ⟨.string r, hgo _ hr1, .str _ _ hr2⟩
  · cases hx
theorem y_fold2 {f : Int → Int → Int} {m : Value → Value → Sem Value} {k : IntKind} (hm : ∀ k' a b, m (.int k a) (.int k' b) = pure (.int k (f a b))) :
    ∀ (l : List AV) (l' : List Value) (a : Int), Reps g l l' → fold2 f k a l = some x → Yld P g w (l'.foldlM m (.int k a)) x := by
  intro l
  induction l with
  | nil =>
    intro l' a hr hx
    obtain rfl := hr.inv0
    simp only [fold2] at hx; injection hx with hx; subst hx
    exact Yld.of (.int _ _)
  | cons y l ih =>
    intro l' a hr hx
    obtain ⟨y', r, rfl, hy, hr2⟩ := hr.inv
    cases y <;> first | (cases hx; done) | skip
    rename_i k' b
    obtain rfl := int_rep hy
    simp only [fold2] at hx
    rw [List.foldlM_cons, hm, pure_bind]
    exact ih r _ hr2 hx
theorem y_max {k : IntKind} {a : Int} {l : List AV} {z : Array Value} {ts : Array TypeId} {t : TypeId} (hr : Reps g (.int k a :: l) z.toList) (hx : fold2 mx2 k a l = some x) : Yld P g w (Builtin.max_ ts t z) x := by
  obtain ⟨y, r, hz, hy, hr⟩ := hr.inv
  obtain rfl := int_rep hy
  unfold Builtin.max_
  rw [hz]
  exact y_fold2 (fun k' a b => rfl) l r a hr hx
theorem y_min {k : IntKind} {a : Int} {l : List AV} {z : Array Value} {ts : Array TypeId} {t : TypeId} (hr : Reps g (.int k a :: l) z.toList) (hx : fold2 mn2 k a l = some x) : Yld P g w (Builtin.min_ ts t z) x := by
  obtain ⟨y, r, hz, hy, hr⟩ := hr.inv
  obtain rfl := int_rep hy
  unfold Builtin.min_
  rw [hz]
  exact y_fold2 (fun k' a b => rfl) l r a hr hx
theorem y_len {y : AV} {z : Array Value} {ts : Array TypeId} {t ty : TypeId} (hr : Reps g [y] z.toList) (ht : ts.toList = [t]) (hx : lenV P t y = some x) : Yld P g w (Builtin.len_ ts ty z) x := by
  obtain ⟨v, r, hz, hy, hr⟩ := hr.inv
  obtain rfl := hr.inv0
  have e1 : ts[0]? = some t := by rw [← Array.getElem?_toList, ht]; rfl
  have e2 : z[0]? = some v := by rw [← Array.getElem?_toList, hz]; rfl
  unfold lenV at hx
  unfold Builtin.len_
  simp only [e1, e2]
  split at hx
  · rename_i nl n els tok
    rw [Option.map_eq_some_iff] at hx
    obtain ⟨q, hq, rfl⟩ := hx
    obtain ⟨et, hu, hty⟩ := eli_parts (ag := q.1) (m := q.2) hq
    obtain ⟨a, cap, rfl, hc⟩ := sl_shape hy
    refine ⟨_, ?_, .int _ _⟩
    rw [run_bind, run_underlying hu]
    rfl
  · rename_i kk tt nn lo len full
    rw [Option.map_eq_some_iff] at hx
    obtain ⟨q, hq, rfl⟩ := hx
    obtain ⟨et, hu, hty⟩ := eli_parts (ag := q.1) (m := q.2) hq
    refine ⟨_, ?_, .int _ _⟩
    cases hy
    rw [run_bind, run_underlying hu]
    rfl
  · rename_i a
    obtain ⟨ht, hx⟩ := bif_some hx
    injection hx with hx; subst hx
    obtain ⟨s, rfl, rfl⟩ := str_rep hy
    have hu : P.underlying t = some .string := by
      unfold isStr at ht
      split at ht
      · assumption
      · cases ht
    refine ⟨_, ?_, .int _ _⟩
    rw [run_bind, run_underlying hu, size_data]
    rfl
  · rw [Option.map_eq_some_iff] at hx
    obtain ⟨q, hq, rfl⟩ := hx
    obtain ⟨et, hu, hty⟩ := ari_parts (len := q.1) (ag := q.2.1) (m := q.2.2) hq
    refine ⟨_, ?_, .int _ _⟩
    rw [run_bind, run_underlying hu]
    rfl
theorem y_cap {y : AV} {z : Array Value} {ts : Array TypeId} {t ty : TypeId} (hr : Reps g [y] z.toList) (ht : ts.toList = [t]) (hx : capV P t y = some x) : Yld P g w (Builtin.cap_ ts ty z) x := by
  obtain ⟨v, r, hz, hy, hr⟩ := hr.inv
  obtain rfl := hr.inv0
  have e1 : ts[0]? = some t := by rw [← Array.getElem?_toList, ht]; rfl
  have e2 : z[0]? = some v := by rw [← Array.getElem?_toList, hz]; rfl
  unfold capV at hx
  unfold Builtin.cap_
  simp only [e1, e2]
  split at hx
  · rename_i nl n els
    rw [Option.map_eq_some_iff] at hx
    obtain ⟨q, hq, rfl⟩ := hx
    obtain ⟨et, hu, hty⟩ := eli_parts (ag := q.1) (m := q.2) hq
    cases hy with
    | slNil =>
      refine ⟨_, ?_, .int _ _⟩
      rw [run_bind, run_underlying hu]
      rfl
    | sl _ _ _ a cap f hs hn h1 h2 hc hfit =>
      refine ⟨_, ?_, .int _ _⟩
      rw [run_bind, run_underlying hu]
      simp only [Tok.fits] at hfit
      simp only
      rw [hfit]
      rfl
  · rename_i kk tt nn lo len
    rw [Option.map_eq_some_iff] at hx
    obtain ⟨q, hq, rfl⟩ := hx
    obtain ⟨et, hu, hty⟩ := eli_parts (ag := q.1) (m := q.2) hq
    cases hy with
    | hs _ _ _ _ _ _ b lim cap h hc hl hf =>
      refine ⟨_, ?_, .int _ _⟩
      rw [run_bind, run_underlying hu]
      simp only
      rw [hf rfl]
      rfl
  · cases hx
end
end Go.Ev
