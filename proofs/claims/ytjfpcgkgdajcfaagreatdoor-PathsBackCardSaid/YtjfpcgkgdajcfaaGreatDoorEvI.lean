/-
  The order of a region: steps exchanged, and moved ahead; no condition.
-/
import Derived.Test.YtjfpcgkgdajcfaaGreatDoorEvH
namespace Go.Ev
open Go Go.RowKit

section
variable {P : Program} {C : Cfg} {cF : FuncId → List AV → Option Out} {cD : FuncId → List AV → St → Option (Out × St)} {mu : Bool}
theorem at_tm {s s2 : St} (h : s2.tm = s.tm) (x : Operand) : s2.at x = s.at x := by cases x <;> first | rfl | (unfold St.at; simp only; rw [h])
theorem eff_tm {E : Eff} {s : St} : (E.app s).tm = s.tm := by cases E <;> rfl
theorem eff_kb {E : Eff} {s : St} : (E.app s).kb = s.kb := by cases E <;> rfl
theorem fits_no {E : Eff} (h : E.fits .no) : E = .id := by cases E <;> first | rfl | cases h
theorem step_loc {ds : List (Option Tmp)} {o : Oper} {s s' : St} {a : Acc} (ha : a ≠ .all) (h : step (P := P) (C := C) (cF := cF) (cD := cD) (mu := mu) ds o s = some (a, s')) :
    ∃ (E : Eff) (v : AV), s' = (E.app s).put o.dst v ∧ E.fits a ∧ ∀ s2 : St, s2.kb = s.kb → (∀ x ∈ o.op.operands, s2.at x = s.at x) → (∀ t, guardT ds o = some t → s2.at (.tmp t) = s.at (.tmp t)) → Sees a s s2 → step (P := P) (C := C) (cF := cF) (cD := cD) (mu := mu) ds o s2 = some (a, (E.app s2).put o.dst v) := by
  unfold step at h
  rw [Option.bind_eq_some_iff] at h
  obtain ⟨wt, hw, h⟩ := h
  cases wt with
  | false =>
    unfold stepW at h
    injection h with h
    simp only [Prod.mk.injEq] at h
    obtain ⟨rfl, rfl⟩ := h
    refine ⟨.id, .undef, rfl, trivial, fun s2 _ _ hg _ => ?_⟩
    unfold step
    rw [wanted_eq hg, hw]; rfl
  | true =>
    unfold stepW at h
    simp only at h
    split at h
    · rename_i a' s1 hop
      injection h with h
      simp only [Prod.mk.injEq] at h
      obtain ⟨rfl, rfl⟩ := h
      obtain ⟨E, v, e1, e2, e3⟩ := evOp_loc ha hop
      refine ⟨E, v, e1, e2, fun s2 hk ho hg hs => ?_⟩
      unfold step
      rw [wanted_eq hg, hw, Option.bind_some]
      unfold stepW
      simp only
      rw [e3 s2 hk ho hs]
    · cases h
theorem step_framed {ds : List (Option Tmp)} {o : Oper} {s s' : St} {a : Acc} (h : step (P := P) (C := C) (cF := cF) (cD := cD) (mu := mu) ds o s = some (a, s')) : Framed o s s' := by
  unfold step at h
  rw [Option.bind_eq_some_iff] at h
  obtain ⟨wt, _, h⟩ := h
  cases wt with
  | false =>
    unfold stepW at h
    injection h with h
    simp only [Prod.mk.injEq] at h
    obtain ⟨rfl, rfl⟩ := h
    exact ⟨by cases o.dst <;> rfl, .undef, rfl⟩
  | true =>
    unfold stepW at h
    simp only at h
    split at h
    · rename_i a' s1 hop
      injection h with h
      simp only [Prod.mk.injEq] at h
      obtain ⟨rfl, rfl⟩ := h
      exact evOp_framed hop
    · cases h
theorem framed_at {o : Oper} {s s' : St} {x : Operand} (h : Framed o s s') (hx : ∀ t, o.dst = some t → x ≠ .tmp t) : s'.at x = s.at x := by
  obtain ⟨_, v, hv⟩ := h
  rw [at_tm hv x]
  cases hd : o.dst with
  | none => rfl
  | some d => exact at_put (hx d hd)
theorem exchange {ds : List (Option Tmp)} {x y : Oper} {s s1 s2 : St} {ax ay : Acc} (hx : step (P := P) (C := C) (cF := cF) (cD := cD) (mu := mu) ds x s = some (ax, s1)) (hy : step (P := P) (C := C) (cF := cF) (cD := cD) (mu := mu) ds y s1 = some (ay, s2)) (hc : Acc.conf ax ay = false) (h1 : ∀ t, x.dst = some t → Away ds t y) (h2 : ∀ t, y.dst = some t → Away ds t x) :
    ∃ s1', step (P := P) (C := C) (cF := cF) (cD := cD) (mu := mu) ds y s = some (ay, s1') ∧ step (P := P) (C := C) (cF := cF) (cD := cD) (mu := mu) ds x s1' = some (ax, s2) := by
  by_cases hax : ax = .all
  · subst hax
    have hay : ay = .no := by cases ay <;> first | rfl | cases hc
    subst hay
    obtain ⟨E, v, e1, e2, e3⟩ := step_loc (by intro q; cases q) hy
    obtain rfl := fits_no e2
    have hf := step_framed hx
    have := e3 s hf.1.symm (fun z hz => (framed_at hf (fun t ht => (h1 t ht).ops z hz)).symm) (fun t ht => (framed_at hf (fun t' ht' q => by injection q with q; subst q; exact (h1 t ht').grd ht)).symm) trivial
    refine ⟨_, this, ?_⟩
    show step (P := P) (C := C) (cF := cF) (cD := cD) (mu := mu) ds x (s.put y.dst v) = _
    rw [step_put h2, hx, e1]; rfl
  · by_cases hay : ay = .all
    · subst hay
      have hax : ax = .no := by cases ax <;> first | rfl | cases hc
      subst hax
      obtain ⟨E, v, e1, e2, e3⟩ := step_loc (by intro q; cases q) hx
      obtain rfl := fits_no e2
      subst e1
      have hy' : step (P := P) (C := C) (cF := cF) (cD := cD) (mu := mu) ds y (s.put x.dst v) = some (.all, s2) := hy
      rw [step_put h1, Option.map_eq_some_iff] at hy'
      obtain ⟨⟨a', s1'⟩, q1, q2⟩ := hy'
      simp only [Prod.mk.injEq] at q2
      obtain ⟨rfl, rfl⟩ := q2
      have hf := step_framed q1
      exact ⟨s1', q1, e3 s1' hf.1 (fun z hz => framed_at hf (fun t ht => (h2 t ht).ops z hz)) (fun t ht => framed_at hf (fun t' ht' q => by injection q with q; subst q; exact (h2 t ht').grd ht)) trivial⟩
    · obtain ⟨Ex, vx, e1, e2, e3⟩ := step_loc hax hx
      subst e1
      rw [step_put h1, Option.map_eq_some_iff] at hy
      obtain ⟨⟨a', s2'⟩, q1, q2⟩ := hy
      simp only [Prod.mk.injEq] at q2
      obtain ⟨rfl, rfl⟩ := q2
      obtain ⟨Ey, vy, f1, f2, f3⟩ := step_loc hay q1
      have hs := f3 s eff_kb.symm (fun z _ => (at_tm eff_tm z).symm) (fun t _ => (at_tm eff_tm _).symm) (sees_sym (eff_sees e2 hay hax (by rw [conf_comm]; exact hc)))
      refine ⟨_, hs, ?_⟩
      rw [step_put h2, e3 (Ey.app s) eff_kb (fun z _ => at_tm eff_tm z) (fun t _ => at_tm eff_tm _) (eff_sees f2 hax hay hc), Option.map_some, f1, eff_comm e2 f2 hc]
      rw [put_comm (fun t ht q => (h1 t ht).dst q)]
/-- A region's steps, in the text's order. -/
inductive Steps (ds : List (Option Tmp)) : List (Nat × Oper) → List (Nat × Acc) → St → St → Prop
  | nil (s : St) : Steps ds [] [] s s
  | cons {i : Nat} {o : Oper} {a : Acc} {l : List (Nat × Oper)} {t : List (Nat × Acc)} {s s1 s' : St} (h : step (P := P) (C := C) (cF := cF) (cD := cD) (mu := mu) ds o s = some (a, s1)) (hs : Steps ds l t s1 s') : Steps ds ((i, o) :: l) ((i, a) :: t) s s'
/-- One step, moved ahead. -/
theorem Steps.ahead {ds : List (Option Tmp)} {j : Nat} {y : Oper} : ∀ {p q : List (Nat × Oper)} {t : List (Nat × Acc)} {s s' : St}, Steps (P := P) (C := C) (cF := cF) (cD := cD) (mu := mu) ds (p ++ (j, y) :: q) t s s' →
    (∀ i x, (i, x) ∈ p → (∀ t, x.dst = some t → Away ds t y) ∧ (∀ t, y.dst = some t → Away ds t x) ∧ ∀ ai aj, (i, ai) ∈ t → (j, aj) ∈ t → Acc.conf ai aj = false) →
    ∃ a s1 t', step (P := P) (C := C) (cF := cF) (cD := cD) (mu := mu) ds y s = some (a, s1) ∧ Steps (P := P) (C := C) (cF := cF) (cD := cD) (mu := mu) ds (p ++ q) t' s1 s' ∧ (j, a) ∈ t ∧ ∀ e ∈ t', e ∈ t := by
  intro p
  induction p with
  | nil =>
    intro q t s s' h _
    cases h with
    | cons h hs => exact ⟨_, _, _, h, hs, List.mem_cons_self, fun e he => List.mem_cons_of_mem _ he⟩
  | cons c p ih =>
    intro q t s s' h hp
    cases h with
    | @cons i x a _ t2 _ s1 _ h hs =>
      obtain ⟨ay, s2, t', h1, h2, h3, h4⟩ := ih hs (fun i x hi => by
        obtain ⟨u1, u2, u3⟩ := hp i x (List.mem_cons_of_mem _ hi)
        exact ⟨u1, u2, fun ai aj hi hj => u3 ai aj (List.mem_cons_of_mem _ hi) (List.mem_cons_of_mem _ hj)⟩)
      obtain ⟨u1, u2, u3⟩ := hp i x List.mem_cons_self
      obtain ⟨s1', g1, g2⟩ := exchange h h1 (u3 a ay List.mem_cons_self (List.mem_cons_of_mem _ h3)) u1 u2
      exact ⟨ay, s1', (i, a) :: t', g1, .cons g2 h2, List.mem_cons_of_mem _ h3, fun e he => by
        rcases List.mem_cons.1 he with rfl | he
        · exact List.mem_cons_self
        · exact List.mem_cons_of_mem _ (h4 e he)⟩
/-- What was evaluated goes by steps. -/
theorem evDraw_steps {ds : List (Option Tmp)} : ∀ (l : List (Nat × Oper)) (tc tc' : List (Nat × Acc)) (s s' : St), evDraw P C cF cD mu ds l tc s = some (none, tc', s') →
    ∃ t, Steps (P := P) (C := C) (cF := cF) (cD := cD) (mu := mu) ds l t s s' ∧ (∀ e ∈ tc, e ∈ tc') ∧ ∀ e ∈ t, e.2 = .no ∨ e ∈ tc' := by
  intro l
  induction l with
  | nil =>
    intro tc tc' s s' h
    simp only [evDraw, Option.some.injEq, Prod.mk.injEq, true_and] at h
    obtain ⟨rfl, rfl⟩ := h
    exact ⟨[], .nil s, fun e he => he, fun e he => by cases he⟩
  | cons c l ih =>
    obtain ⟨i, o⟩ := c
    intro tc tc' s s' h
    simp only [evDraw, Option.bind_eq_some_iff] at h
    obtain ⟨wt, hw, h⟩ := h
    cases wt with
    | false =>
      unfold wantK at h
      simp only at h
      obtain ⟨t, h1, h2, h3⟩ := ih _ _ _ _ h
      refine ⟨(i, .no) :: t, .cons (by unfold step; rw [hw]; rfl) h1, h2, fun e he => ?_⟩
      rcases List.mem_cons.1 he with rfl | he
      · exact .inl rfl
      · exact h3 e he
    | true =>
      unfold wantK opTD at h
      simp only [Option.bind_eq_some_iff] at h
      obtain ⟨r, hop, h⟩ := h
      cases r with
      | ok a s1 =>
        unfold opD at h
        simp only at h
        obtain ⟨t, h1, h2, h3⟩ := ih _ _ _ _ h
        refine ⟨(i, a) :: t, .cons (by unfold step; rw [hw]; simp only [Option.bind_some, stepW, hop]) h1, fun e he => h2 e (List.mem_cons_of_mem _ he), fun e he => ?_⟩
        rcases List.mem_cons.1 he with rfl | he
        · exact .inr (h2 _ List.mem_cons_self)
        · exact h3 e he
      | pan x s1 => unfold opD at h; simp only [Option.some.injEq, Prod.mk.injEq] at h; cases h.1
end
end Go.Ev
