/-
  The operations that do not look at the call's own state: together; no condition.
-/
import Derived.Test.YtjfpcgkgdajcfaaGreatDoorEvF
namespace Go.Ev
open Go Go.RowKit

/-- A step: what it yields, and that all stays. -/
def Stp (P : Program) (o : Oper) (a : Act) (g : G) (s' : St) (w : World) (B : Nat) (x : AV) : Prop :=
  ∃ w' g', ((∃ v, (execOp a.eval o).run P w = .ok (.value v) w' ∧ Rep g' x v) ∨ ((execOp a.eval o).run P w = .ok .skip w' ∧ x = .undef)) ∧ g.le g' ∧ Mem g' s' w' B ∧ Below B w w' ∧ ∀ b o, b < B → g'.fz b o = g.fz b o
section
variable {P : Program} {w : World} {g : G} {x : AV} {s : St} {a : Act} {B : Nat} {o : Oper}
theorem Stp.of (hm : Mem g s w B) {m : Sem Value} (h : Yld P g w m x) (he : execOp a.eval o = (do pure (Next.value (← m)))) : Stp P o a g s w B x := by
  obtain ⟨v, h1, h2⟩ := h.next
  exact ⟨w, g, .inl ⟨v, by rw [he]; exact h1, h2⟩, .refl g, hm, .refl B w, fun _ _ _ => rfl⟩
theorem Stp.val (hm : Mem g s w B) {v : Value} (h : Rep g x v) (he : execOp a.eval o = pure (.value v)) : Stp P o a g s w B x :=
  ⟨w, g, .inl ⟨v, by rw [he]; rfl, h⟩, .refl g, hm, .refl B w, fun _ _ _ => rfl⟩
theorem Tms.list (ht : Tms g s a) (l : List Operand) : Reps g (l.map s.at) (l.map a.eval) := by
  refine ⟨by simp, fun i x y hx hy => ?_⟩
  rw [List.getElem?_map, Option.map_eq_some_iff] at hx hy
  obtain ⟨u, hu, rfl⟩ := hx
  obtain ⟨u', hu', rfl⟩ := hy
  rw [hu] at hu'; injection hu' with e; subst e
  exact ht.at u
theorem Tms.opt (ht : Tms g s a) (l : Option Operand) : RepO g (l.map s.at) (l.map a.eval) := by
  cases l with
  | none => exact ⟨rfl, fun x y h => by cases h⟩
  | some u => exact ⟨rfl, fun x y h h' => by injection h with h; injection h' with h'; subst h; subst h'; exact ht.at u⟩
theorem blk_parts {k t : Nat} {b : Blk} (h : s.blk k t = some b) : b ∈ s.hp ∧ b.k = k ∧ b.g = t := by
  unfold St.blk at h
  have h1 := List.mem_of_find?_eq_some h
  have h2 := List.find?_some h
  simp at h2
  exact ⟨h1, h2.1, h2.2⟩
theorem eqV_form {t : TypeId} {p q : AV} {p' q' : Value} {r : Bool} (hx : Rep g p p') (hy : Rep g q q') (h : eqV P t p q = some r) :
    binOp .eql t p' q' = (do pure (.bool (← Op.equal t p' q'))) ∧ binOp .neq t p' q' = (do pure (.bool (!(← Op.equal t p' q')))) := by
  unfold eqV at h
  split at h <;> first | (cases h; done) | (cases hx <;> cases hy <;> exact ⟨rfl, rfl⟩)
theorem bin_yld {op : BinOp} {t : TypeId} {p q : AV} {p' q' : Value} (hx : Rep g p p') (hy : Rep g q q') (h : bin P op t p q = some x) :
    (plainPair p' q' = true ∨ P.eqGuardType P.depth t = false ∧ ∃ xs ys, p' = .agg xs ∧ q' = .agg ys) ∧ Yld P g w (binOp op t p' q') x := by
  unfold bin at h
  split at h
  · obtain rfl := int_rep hx
    obtain rfl := int_rep hy
    cases hs : isSh op with
    | true => rw [hs, cond_true] at h; exact ⟨.inl rfl, y_iShift h t⟩
    | false =>
      rw [hs, cond_false] at h
      obtain ⟨hk, h2⟩ := bif_some h
      have hk := eq_of_beq hk
      subst hk
      exact ⟨.inl rfl, y_iBin hs h2 t⟩
  · obtain ⟨s1, rfl, rfl⟩ := str_rep hx
    obtain ⟨s2, rfl, rfl⟩ := str_rep hy
    exact ⟨.inl rfl, y_sBin h t⟩
  · split at h
    · rw [Option.map_eq_some_iff] at h
      obtain ⟨r, hr, rfl⟩ := h
      obtain ⟨h1, h2⟩ := y_eqV (w := w) hx hy hr
      exact ⟨h2, _, by rw [(eqV_form hx hy hr).1, run_bind, h1]; rfl, .bool _⟩
    · rw [Option.map_eq_some_iff] at h
      obtain ⟨r, hr, rfl⟩ := h
      obtain ⟨h1, h2⟩ := y_eqV (w := w) hx hy hr
      exact ⟨h2, _, by rw [(eqV_form hx hy hr).2, run_bind, h1]; rfl, .bool _⟩
    · cases h
theorem bin_sound {op : BinOp} {t t' : TypeId} {X Y : Operand} (hm : Mem g s w B) (ht : Tms g s a) (ho : o.op = .binOp op t X Y t') (h : bin P op t (s.at X) (s.at Y) = some x) : Stp P o a g s w B x := by
  have he : execOp a.eval o = (do pure (Next.value (← (do eqGuard op t X Y (a.eval X) (a.eval Y); binOp op t (a.eval X) (a.eval Y))))) := by
    unfold execOp; rw [ho]
  obtain ⟨h1, v, h2, h3⟩ := bin_yld (w := w) (ht.at X) (ht.at Y) h
  exact Stp.of hm ⟨v, by rw [run_bind, run_eqGuard h1]; exact h2, h3⟩ he
/-- A new row that never changes, of a value that is built at once. -/
theorem buildSlice_sound {t : TypeId} {len n : Nat} {els : List AV} {parts : Array (Nat × Operand)} (hm : Mem g s w B) (ht : Tms g s a) (ho : o.op = .buildSlice t len parts)
    (h : rowOf P t len (parts.toList.map fun p => (p.1, s.at p.2)) = some (n, els)) : Stp P o a g s w B (.sl false n els .full) := by
  unfold rowOf at h
  rw [Option.bind_eq_some_iff] at h
  obtain ⟨⟨ag, n'⟩, he, h⟩ := h
  rw [Option.bind_eq_some_iff] at h
  obtain ⟨z, hz, h⟩ := h
  obtain ⟨hc, h⟩ := bif_some h
  rw [Option.map_eq_some_iff] at h
  obtain ⟨els', hf, h⟩ := h
  simp only [Prod.mk.injEq] at h
  obtain ⟨rfl, rfl⟩ := h
  rw [Bool.and_eq_true, Bool.and_eq_true] at hc
  obtain ⟨⟨hrow, hle⟩, hpos⟩ := hc
  have hle := Nat.le_of_ble_eq_true hle
  have hpos : 0 < n' := by simpa [Nat.blt_eq] using hpos
  obtain ⟨et, hu, hty⟩ := eli_parts he
  unfold zerE at hz
  rw [hu] at hz
  simp only at hz
  obtain ⟨v, hv, rfl⟩ := run_zero (w := w) hz
  obtain ⟨hzl, hzc⟩ := AV.row_iff.1 hrow
  have hzr := ((Rep.of g v).cells hzc).1
  have hzs : v.cells.size = n' := by have := hzr.1; rw [Array.length_toList] at this; rw [this]; exact hzl
  have hrep0 : ∀ e ∈ List.replicate len (AV.of v), e.row n' = true := fun e he => by rw [(List.mem_replicate.1 he).2]; exact hrow
  obtain ⟨hfill, hrows, hlen⟩ := fillEls_flat _ _ els' hrep0 hf
  rw [List.length_replicate] at hlen
  let zero : Array Value := if len * n' = 0 then #[] else v.cells
  let init : Array Value := (Array.range (len * n')).map fun i => zero[i % zero.size]!
  have hinit : Reps g (flat (List.replicate len (AV.of v))) init.toList := by
    refine ⟨by rw [flat_len hrep0]; simp [init], fun q c y hq hy => ?_⟩
    obtain ⟨e, he1, he2, hmod, hdiv⟩ := flat_inv hpos hrep0 hq
    have he3 : e = AV.of v := (List.mem_replicate.1 (List.mem_of_getElem? he1)).2
    subst he3
    have hql := (List.getElem?_eq_some_iff.1 hq).1
    rw [flat_len hrep0, List.length_replicate] at hql
    have hne : ¬ len * n' = 0 := by omega
    have hz : zero = v.cells := if_neg hne
    have hy2 : y = v.cells[q % n']! := by
      simp only [init, Array.toList_map, Array.toList_range, List.getElem?_map, List.getElem?_range hql, Option.map_some, Option.some.injEq, hz, hzs] at hy
      exact hy.symm
    have hlt : q % n' < v.cells.size := by omega
    rw [hy2, getElem!_pos v.cells _ hlt]
    exact hzr.2 (q % n') c _ he2 (by rw [Array.getElem?_toList, Array.getElem?_eq_getElem hlt])
  have hparts : (parts.map fun p => (p.1, a.eval p.2)).toList.map (·.1) = (parts.toList.map fun p => (p.1, s.at p.2)).map (·.1) := by simp
  have hpr : Reps g ((parts.toList.map fun p => (p.1, s.at p.2)).map (·.2)) ((parts.map fun p => (p.1, a.eval p.2)).toList.map (·.2)) := by
    have := ht.list (parts.toList.map (·.2))
    simpa [List.map_map, Function.comp_def] using this
  obtain ⟨vs, hvs, hrep⟩ := fill_sound (fun i => some (i * n', n')) _ (parts.map fun p => (p.1, a.eval p.2)).toList _ init (flat els') hparts hpr hinit hfill
  have hsz : vs.size = els'.length * n' := by have := hrep.1; rw [Array.length_toList, flat_len hrows] at this; exact this
  have hrun : (Instr.buildSlice t len (parts.map fun p => (p.1, a.eval p.2))).run P w = .ok (.slice (some ⟨w.heap.size, 0, none⟩) len len) (w.alloc (.cells vs et)) := by
    unfold Instr.buildSlice
    rw [run_bind, run_underlying hu]
    simp only
    rw [run_bind, run_sizeOf hty]
    simp only
    rw [if_neg (by omega)]
    by_cases h0 : len * n' = 0
    · have hz0 : zero = #[] := if_pos h0
      have hvs0 := hvs
      simp only [init, hz0] at hvs0
      rw [if_pos h0, run_bind, run_pure]
      simp only
      rw [hvs0]
      rfl
    · have hz0 : zero = v.cells := if_neg h0
      have hvs0 := hvs
      simp only [init, hz0] at hvs0
      rw [if_neg h0, run_bind, hv]
      simp only
      rw [run_bind, run_pure]
      simp only
      rw [hvs0]
      rfl
  refine ⟨_, g.row w.heap.size vs (els'.length * n'), .inl ⟨.slice (some ⟨w.heap.size, 0, none⟩) len len, ?_, ?_⟩, G.row_le hm vs _, hm.row vs _ et, (Below.refl B w).alloc hm.base _, fun b o hb => ?_⟩
  · unfold execOp; rw [ho]
    simp only
    rw [run_bind]
    rw [hrun]
    rfl
  · rw [← hlen]
    refine Rep.fresh (vs := vs) hrows ?_ (fun o ho => ?_) (Nat.le_refl _) rfl
    · rw [List.take_of_length_le (by simp [hsz])]
      exact hrep.mono (G.row_le hm vs _)
    · unfold G.row; simp only [if_true, if_pos ho]
  · unfold G.row; simp only; rw [if_neg (by have := hm.base; omega)]
/-- What does not look at the call's own state. -/
theorem evP_sound (hm : Mem g s w B) (ht : Tms g s a) (h : evP P s.at o.op = some x) : Stp P o a g s w B x := by
  revert h
  generalize hop : o.op = op
  intro h
  cases op <;> first | (cases h; done) | skip
  case move y => injection h with h; subst h; exact Stp.val hm (ht.at y) (by unfold execOp; rw [hop])
  case assign y => injection h with h; subst h; exact Stp.val hm (ht.at y) (by unfold execOp; rw [hop])
  case pick c p q =>
    simp only [evP, Option.map_eq_some_iff] at h
    obtain ⟨t, hc, rfl⟩ := h
    have hcv := asB_rep (ht.at c) hc
    cases t with
    | true => exact Stp.val hm (ht.at p) (by unfold execOp; rw [hop]; simp only [hcv]; rfl)
    | false => exact Stp.val hm (ht.at q) (by unfold execOp; rw [hop]; simp only [hcv]; rfl)
  case field t y f =>
    simp only [evP, Option.bind_eq_some_iff] at h
    obtain ⟨cs, hcs, ⟨oo, ag, n⟩, hf, h⟩ := h
    exact Stp.of hm (y_field (asAgg_rep (ht.at y) hcs) hf h) (by unfold execOp; rw [hop])
  case extract y i =>
    simp only [evP, Option.bind_eq_some_iff] at h
    obtain ⟨cs, hcs, h⟩ := h
    exact Stp.of hm (y_extract (asTup_rep (ht.at y) hcs) h) (by unfold execOp; rw [hop])
  case makeFunc f p q =>
    injection h with h; subst h
    refine Stp.of hm (m := Instr.makeFunc f (p.map a.eval) (q.map a.eval)) ⟨_, rfl, Rep.fnOf ?_ ?_⟩ (by unfold execOp; rw [hop])
    · simpa using ht.list p.toList
    · simpa using ht.list q.toList
  case makeInterface t y =>
    obtain ⟨hc, h⟩ := bif_some h
    injection h with h; subst h
    exact Stp.of hm (y_makeInterface (ht.at y) hc) (by unfold execOp; rw [hop])
  case binOp bop t p q t' => exact bin_sound hm ht hop h
  case unOp uop t y => exact Stp.of hm (y_uny (ht.at y) h) (by unfold execOp; rw [hop])
  case convert p q y => exact Stp.of hm (y_conv (ht.at y) hm.held h) (by unfold execOp; rw [hop])
  case index t y j =>
    simp only [evP, Option.bind_eq_some_iff] at h
    obtain ⟨jn, hj, h⟩ := h
    obtain ⟨k, hjv⟩ := asI_rep (ht.at j) hj
    refine Stp.of hm (m := Instr.index t (a.eval y) (a.eval j)) ?_ (by unfold execOp; rw [hop])
    rw [hjv]
    have hy := ht.at y
    split at h
    · rename_i l hl
      rw [hl] at hy
      obtain ⟨hs, h⟩ := cnd_some h
      obtain ⟨hb, h⟩ := cnd_some h
      rw [Option.map_eq_some_iff] at h
      obtain ⟨c, hc, rfl⟩ := h
      exact y_index_str hy hs (by simpa using hb) hc
    · rename_i cs hl
      rw [hl] at hy
      rw [Option.bind_eq_some_iff] at h
      obtain ⟨⟨len, ag, n⟩, ha, h⟩ := h
      obtain ⟨hb, h⟩ := cnd_some h
      exact y_index_arr hy ha (by simpa using hb) h
    · cases h
  case indexAddr t y j =>
    simp only [evP, Option.bind_eq_some_iff] at h
    obtain ⟨jn, hj, h⟩ := h
    obtain ⟨k, hjv⟩ := asI_rep (ht.at j) hj
    refine Stp.of hm (m := Instr.indexAt t (a.eval y) (a.eval j)) ?_ (by unfold execOp; rw [hop])
    rw [hjv]
    have hy := ht.at y
    split at h
    · rename_i nl n els tok hl
      rw [hl] at hy
      rw [Option.bind_eq_some_iff] at h
      obtain ⟨⟨ag, n'⟩, ha, h⟩ := h
      obtain ⟨hb, h⟩ := cnd_some h
      rw [Option.map_eq_some_iff] at h
      obtain ⟨e, he, rfl⟩ := h
      rw [Bool.and_eq_true] at hb
      have hn : n' = n := by simpa using hb.1
      subst hn
      exact y_indexAddr_sl hy ha (by simpa using hb.2) he
    · rename_i kk tt nn lo len full hl
      rw [hl] at hy
      rw [Option.bind_eq_some_iff] at h
      obtain ⟨⟨ag, n'⟩, ha, h⟩ := h
      obtain ⟨hb, h⟩ := cnd_some h
      injection h with h; subst h
      rw [Bool.and_eq_true] at hb
      have hn : n' = nn := by simpa using hb.1
      subst hn
      exact y_indexAddr_hs hy ha (by simpa using hb.2)
    · rename_i kk tt i oo hl
      rw [hl] at hy
      rw [Option.bind_eq_some_iff] at h
      obtain ⟨⟨len, ag, n⟩, ha, h⟩ := h
      obtain ⟨hb, h⟩ := cnd_some h
      injection h with h; subst h
      exact y_indexAddr_pt hy ha (by simpa using hb)
    · rename_i e hl
      rw [hl] at hy
      rw [Option.bind_eq_some_iff] at h
      obtain ⟨⟨len, ag, n⟩, ha, h⟩ := h
      obtain ⟨hb, h⟩ := cnd_some h
      rw [Option.map_eq_some_iff] at h
      obtain ⟨y2, hy2, rfl⟩ := h
      exact y_indexAddr_ep hy ha (by simpa using hb) hy2
    · cases h
  case load t y =>
    simp only [evP] at h
    have hy := ht.at y
    split at h
    · rename_i e hl
      rw [hl] at hy
      rw [Option.bind_eq_some_iff] at h
      obtain ⟨⟨ag, n⟩, ha, h⟩ := h
      exact Stp.of hm (y_load_ep hm.held hy ha h) (by unfold execOp; rw [hop])
    · cases h
  case fieldAddr t y f =>
    simp only [evP] at h
    have hy := ht.at y
    split at h
    · rename_i e hl
      rw [hl] at hy
      rw [Option.bind_eq_some_iff] at h
      obtain ⟨⟨oo, ag, n⟩, ha, h⟩ := h
      cases hn : n == 0 with
      | true => simp only [hn, cond_true] at h; cases h
      | false =>
        simp only [hn, cond_false, Option.map_eq_some_iff] at h
        obtain ⟨y2, hy2, rfl⟩ := h
        exact Stp.of hm (y_fieldAddr_ep hy ha (by simpa using hn) hy2) (by unfold execOp; rw [hop])
    · rename_i kk tt i oo hl
      rw [hl] at hy
      rw [Option.bind_eq_some_iff] at h
      obtain ⟨⟨o', ag, n⟩, ha, h⟩ := h
      cases hn : n == 0 with
      | true => simp only [hn, cond_true] at h; cases h
      | false =>
        simp only [hn, cond_false] at h
        injection h with h; subst h
        exact Stp.of hm (y_fieldAddr_pt hy ha (by simpa using hn)) (by unfold execOp; rw [hop])
    · cases h
  case slice t y lo hi mx =>
    refine Stp.of hm (m := Instr.sliceAt t (a.eval y) (lo.map a.eval) (hi.map a.eval) (mx.map a.eval)) ?_ (by unfold execOp; rw [hop])
    simp only [evP] at h
    obtain ⟨hh, h⟩ := bif_some h
    have hh3 : (mx.map s.at).isSome = true → (hi.map s.at).isSome = true := by cases mx <;> cases hi <;> simp_all
    have hy := ht.at y
    have h1 := ht.opt lo
    have h2 := ht.opt hi
    have h3 := ht.opt mx
    unfold slc at h
    split at h
    · rename_i nl n els tok hl
      rw [hl] at hy
      rw [Option.bind_eq_some_iff] at h
      obtain ⟨⟨ag, sz⟩, ha, h⟩ := h
      rw [Option.bind_eq_some_iff] at h
      obtain ⟨r, hb, h⟩ := h
      exact y_slice_sl hy h1 h2 h3 ha hb h hh3
    · rename_i kk tt nn oo len full hl
      rw [hl] at hy
      rw [Option.bind_eq_some_iff] at h
      obtain ⟨⟨ag, sz⟩, ha, h⟩ := h
      obtain ⟨hn, h4⟩ := cnd_some h
      rw [Option.bind_eq_some_iff] at h4
      obtain ⟨r, hb, h4⟩ := h4
      have hn : sz = nn := by simpa using hn
      subst hn
      exact y_slice_hs hy h1 h2 h3 ha hb h4 hh3
    · rename_i l hl
      rw [hl] at hy
      split at h
      · rename_i hmx
        obtain ⟨hs, h⟩ := bif_some h
        rw [Option.map_eq_some_iff] at h
        obtain ⟨r, hb, rfl⟩ := h
        rw [hmx] at h3
        rw [h3.none_]
        exact y_slice_str hy h1 h2 hs hb
      · cases h
    · cases h
  case nilCheck y =>
    simp only [evP] at h
    have hy := ht.at y
    split at h
    · rename_i e hl
      rw [hl] at hy
      injection h with h; subst h
      obtain ⟨ad, hv⟩ := y_nilCheck_ep hy
      exact Stp.val hm hy (by unfold execOp; rw [hop]; simp only [hv])
    · rename_i kk tt i oo hl
      rw [hl] at hy
      injection h with h; subst h
      obtain ⟨ad, hv⟩ := y_nilCheck_pt hy
      exact Stp.val hm hy (by unfold execOp; rw [hop]; simp only [hv])
    · cases h
  case build t parts =>
    refine Stp.of hm (m := Instr.build t (parts.map fun p => (p.1, a.eval p.2))) (y_build ?_ ?_ h) (by unfold execOp; rw [hop])
    · simp
    · have := ht.list (parts.toList.map (·.2))
      simpa [List.map_map, Function.comp_def] using this
  case buildSlice t len parts =>
    simp only [evP, Option.map_eq_some_iff] at h
    obtain ⟨⟨n, els⟩, hr, rfl⟩ := h
    exact buildSlice_sound hm ht hop hr
  case call c =>
    simp only [evP] at h
    split at h
    · rename_i b hb
      have hl := ht.list c.args.toList
      have hl2 : Reps g (c.args.toList.map s.at) (c.args.map a.eval).toList := by simpa using hl
      have he : ∀ m : Sem Value, builtin b c.argTypes o.type (c.args.map fun | .const _ => true | _ => false) (c.args.map a.eval) = (do pure (.value (← m))) → execOp a.eval o = (do pure (Next.value (← m))) := fun m hm => by
        unfold execOp; rw [hop]; simp only
        unfold resolve; rw [hb]
        rw [← hm]
        rfl
      revert h hl2
      generalize c.args.toList.map s.at = args
      intro h hl2
      unfold bltn at h
      split at h
      · rename_i y t hts
        exact Stp.of hm (y_len hl2 hts h) (he _ rfl)
      · rename_i y t hts
        exact Stp.of hm (y_cap hl2 hts h) (he _ rfl)
      · exact Stp.of hm (y_max hl2 h) (he _ rfl)
      · exact Stp.of hm (y_min hl2 h) (he _ rfl)
      · cases h
    · cases h
end
end Go.Ev
