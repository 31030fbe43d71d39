/-
  The order of a region: two steps exchanged; no condition.
-/
import Derived.Test.YtjfpcgkgdajcfaaGreatDoorEvG
namespace Go.Ev
open Go Go.RowKit

section
variable {P : Program} {C : Cfg} {cF : FuncId → List AV → Option Out} {cD : FuncId → List AV → St → Option (Out × St)} {mu : Bool}
/-- What a guard looks at. -/
def guardT (ds : List (Option Tmp)) (o : Oper) : Option Tmp := o.guard.bind fun (j, _) => (ds[j]?).bind id
/-- An operation that does not look at a slot, nor writes it. -/
structure Away (ds : List (Option Tmp)) (e : Tmp) (o : Oper) : Prop where
  ops : ∀ x ∈ o.op.operands, x ≠ .tmp e
  grd : guardT ds o ≠ some e
  dst : o.dst ≠ some e
theorem map_map_put {α : Type} {o : Option α} {f g : α → α} (h : ∀ x, f x = g x) : o.map f = o.map g := by cases o <;> simp [h]
theorem evV_put {o : Oper} {s : St} {e : Tmp} {v : AV} (h : ∀ x ∈ o.op.operands, x ≠ .tmp e) : evV P mu o.dst (s.put (some e) v).at (s.put (some e) v) o.op = (evV P mu o.dst s.at s o.op).map fun r => (r.1, r.2.1, r.2.2.put (some e) v) := by
  have hρ : ∀ x ∈ o.op.operands, (s.put (some e) v).at x = s.at x := fun x hx => at_put (h x hx)
  have hev : ∀ s2, evV P mu o.dst (s.put (some e) v).at s2 o.op = evV P mu o.dst s.at s2 o.op := fun s2 => by
    unfold evV
    rw [isE_congr hρ, evE_congr hρ, evP_congr hρ]
  rw [hev]
  have hall : ∀ s2 : St, s2.kb = s.kb → s2.hp = s.hp → s2.nx = s.nx → s2.lv = s.lv → ∀ a, a ≠ .all → Sees a s s2 := fun s2 _ h2 h3 h4 a ha => by
    cases a with
    | no => trivial
    | rd k => exact fun g => by unfold St.blk; rw [h2]
    | wr k => exact fun g => by unfold St.blk; rw [h2]
    | nw k => exact ⟨by rw [h3], fun g => by unfold St.blk; rw [h2]⟩
    | tk k => exact ⟨by rw [h3], fun g l t => by rw [h4]⟩
    | all => exact absurd rfl ha
  by_cases hap : ∃ c, o.op = .call c ∧ c.callee = .builtin .append
  · obtain ⟨c, hop, hcb⟩ := hap
    have he : ∀ s2, evV P mu o.dst s.at s2 o.op = appC P mu (s2.kb + o.dst.getD 0) (c.args.toList.map s.at) c.argTypes.toList s2 := fun s2 => by
      unfold evV; rw [hop]; simp only [isE, hcb, cnd_true, evE]
    rw [he, he, show s.put (some e) v = { s with tm := s.tm.set e v } from rfl, appC_tm]
    cases hq : appC P mu (s.kb + o.dst.getD 0) (c.args.toList.map s.at) c.argTypes.toList s with
    | none => rfl
    | some r =>
      obtain ⟨y, a, s'⟩ := r
      have ht := (appC_frm hq).tm
      simp only [Option.map_some, St.put, ht]
  cases hr : evV P mu o.dst s.at s o.op with
  | none =>
    cases hr2 : evV P mu o.dst s.at (s.put (some e) v) o.op with
    | none => rfl
    | some r =>
      obtain ⟨y, a, s'⟩ := r
      obtain ⟨E, _, _, h3, h4⟩ := (evV_loc hr2).resolve_right (fun q => hap q.2)
      have := h4 s rfl (sees_sym (hall (s.put (some e) v) rfl rfl rfl rfl a h3))
      rw [show (fun s => evV P mu o.dst _ s o.op) s = evV P mu o.dst s.at s o.op from rfl] at this
      rw [hr] at this; cases this
  | some r =>
    obtain ⟨y, a, s'⟩ := r
    obtain ⟨E, h1, _, h3, h4⟩ := (evV_loc hr).resolve_right (fun q => hap q.2)
    have := h4 (s.put (some e) v) rfl (hall (s.put (some e) v) rfl rfl rfl rfl a h3)
    rw [show (fun s2 => evV P mu o.dst s.at s2 o.op) (s.put (some e) v) = evV P mu o.dst s.at (s.put (some e) v) o.op from rfl] at this
    rw [this, Option.map_some, h1, eff_put]
theorem snap0_put {x : AV} {s : St} {e : Tmp} {v : AV} : snap0 x (s.put (some e) v) = (snap0 x s).map fun r => (r.1, r.2.put (some e) v) := by
  unfold snap0
  split
  · rfl
  · rename_i k g _ lo len _
    have : (s.put (some e) v).blk k g = s.blk k g := rfl
    rw [this]
    cases s.blk k g with
    | none => rfl
    | some b =>
      simp only [Option.bind_some]
      unfold cnd
      split <;> rfl
  · rfl
theorem snapL_put {f : AV → St → Option (AV × St)} {e : Tmp} {v : AV} (hf : ∀ x s, f x (s.put (some e) v) = (f x s).map fun r => (r.1, r.2.put (some e) v)) :
    ∀ (l : List AV) (s : St), snapL f l (s.put (some e) v) = (snapL f l s).map fun r => (r.1, r.2.put (some e) v) := by
  intro l
  induction l with
  | nil => intro s; rfl
  | cons x l ih =>
    intro s
    simp only [snapL]
    rw [hf]
    cases f x s with
    | none => rfl
    | some r =>
      simp only [Option.map_some, Option.bind_some]
      rw [ih]
      cases snapL f l r.2 <;> rfl
theorem snap1_put {x : AV} {s : St} {e : Tmp} {v : AV} : snap1 x (s.put (some e) v) = (snap1 x s).map fun r => (r.1, r.2.put (some e) v) := by
  unfold snap1
  split
  · rw [snapL_put (fun x s => snap0_put)]
    simp only [Option.map_map]; rfl
  · exact snap0_put
theorem put_put {s : St} {d : Option Tmp} {e : Tmp} {x v : AV} (h : d ≠ some e) : (s.put (some e) v).put d x = (s.put d x).put (some e) v :=
  put_comm (fun t ht => by injection ht with ht; subst ht; exact h)
theorem backD_put {d : Option Tmp} {s : St} {e : Tmp} {v : AV} (h : d ≠ some e) (r : Out × St) : backD d (s.put (some e) v) r = (backD d s r).put (some e) v := by
  obtain ⟨x, s'⟩ := r
  cases x with
  | ret x =>
    unfold backD OpR.put
    simp only
    rw [← put_put h]; rfl
  | pan x => rfl
theorem dirtyC_put {d : Option Tmp} {f : FuncId} {args : List AV} {s : St} {e : Tmp} {v : AV} (h : d ≠ some e) : dirtyC cD d f args (s.put (some e) v) = (dirtyC cD d f args s).map (OpR.put (some e) v) := by
  unfold dirtyC
  rw [Option.map_map]
  show (cD f args _).map _ = _
  congr 1
  funext r
  exact backD_put h r
theorem afterC_put {a : Acc} {d : Option Tmp} {s : St} {e : Tmp} {v : AV} (h : d ≠ some e) (r : Out) : afterC a d (s.put (some e) v) r = (afterC a d s r).put (some e) v := by
  cases r with
  | ret x => unfold afterC OpR.put; simp only; rw [← put_put h]
  | pan x => rfl
theorem snapC_put {d : Option Tmp} {f : FuncId} {args : List AV} {s : St} {e : Tmp} {v : AV} (h : d ≠ some e) : snapC cF cD d f args (s.put (some e) v) = (snapC cF cD d f args s).map (OpR.put (some e) v) := by
  unfold snapC
  rw [snapL_put (fun x s => snap1_put)]
  cases snapL snap1 args s with
  | none => rfl
  | some r =>
    simp only [Option.map_some, Option.bind_some]
    cases AV.cleanL r.1 with
    | true =>
      rw [cnd_true, cnd_true, Option.map_map]
      congr 1
      funext q
      exact afterC_put h q
    | false => rw [cnd_false, cnd_false]; exact dirtyC_put h
theorem evCall_put {d : Option Tmp} {f : FuncId} {args : List AV} {s : St} {e : Tmp} {v : AV} (h : d ≠ some e) : evCall C cF cD d f args (s.put (some e) v) = (evCall C cF cD d f args s).map (OpR.put (some e) v) := by
  unfold evCall
  cases C.dirty f with
  | true => rw [cond_true, cond_true]; exact dirtyC_put h
  | false =>
    rw [cond_false, cond_false]
    cases AV.cleanL (AV.shedL args) with
    | true =>
      rw [cond_true, cond_true, Option.map_map]
      congr 1
      funext q
      exact afterC_put h q
    | false => rw [cond_false, cond_false]; exact snapC_put h
/-- How an operation is taken. -/
theorem evOp_cases (o : Oper) (s : St) :
    (evOp P C cF cD mu o s = (evV P mu o.dst s.at s o.op).map (putR o.dst)) ∨
    (∃ c f, o.op = .call c ∧ c.callee = .value f ∧ evOp P C cF cD mu o s = (callee (s.at f) (c.args.toList.map s.at)).bind fun (g, xs) => evCall C cF cD o.dst g xs s) ∨
    (∃ x, o.op = .panic x ∧ evOp P C cF cD mu o s = match s.at x with | .ifc t y => some (.pan (.ifc t y) s) | _ => none) ∨
    (∃ c, o.op = .defer c ∧ ((∃ f, c.callee = .value f ∧ evOp P C cF cD mu o s = (callee (s.at f) (c.args.toList.map s.at)).map fun r => .ok .all ({ s with df := r :: s.df }.put o.dst .undef)) ∨ ((∀ f, c.callee ≠ .value f) ∧ evOp P C cF cD mu o s = none))) := by
  unfold evOp
  cases hop : o.op <;> first
    | exact .inl rfl
    | skip
  case call c =>
    cases hc : c.callee with
    | value f => exact .inr (.inl ⟨c, f, rfl, hc, by simp only [hc]⟩)
    | builtin b => exact .inl (by simp only [hc])
    | _ => exact .inl (by simp only [hc])
  case panic x => exact .inr (.inr (.inl ⟨x, rfl, rfl⟩))
  case defer c =>
    refine .inr (.inr (.inr ⟨c, rfl, ?_⟩))
    cases hc : c.callee with
    | value f => exact .inl ⟨f, rfl, by simp only [hc]⟩
    | _ => exact .inr ⟨fun f q => (by cases q), (by simp only [hc])⟩
theorem args_at {s s2 : St} {c : Call} {f : Operand} (hc : c.callee = .value f) (h : ∀ x ∈ c.operands, s2.at x = s.at x) : s2.at f = s.at f ∧ c.args.toList.map s2.at = c.args.toList.map s.at := by
  have h1 : ∀ x ∈ c.args.toList, s2.at x = s.at x := fun x hx => h x (by simp only [Call.operands, Array.mem_append]; exact .inr (by simpa using hx))
  refine ⟨h f ?_, map_congr h1⟩
  simp only [Call.operands, hc, Array.mem_append]
  exact .inl (by simp)
theorem evOp_put {o : Oper} {s : St} {e : Tmp} {v : AV} (h : ∀ x ∈ o.op.operands, x ≠ .tmp e) (hd : o.dst ≠ some e) : evOp P C cF cD mu o (s.put (some e) v) = (evOp P C cF cD mu o s).map (OpR.put (some e) v) := by
  have hρ : ∀ x ∈ o.op.operands, (s.put (some e) v).at x = s.at x := fun x hx => at_put (h x hx)
  cases hop : o.op <;> first
    | skip
  case call c =>
    cases hc : c.callee with
    | value f =>
      obtain ⟨h1, h2⟩ := args_at hc (by rw [hop] at hρ; exact hρ)
      have hu : ∀ s2, evOp P C cF cD mu o s2 = (callee (s2.at f) (c.args.toList.map s2.at)).bind fun (g, xs) => evCall C cF cD o.dst g xs s2 := fun s2 => by
        unfold evOp; simp only [hop, hc]
      rw [hu, hu, h1, h2]
      cases callee (s.at f) (c.args.toList.map s.at) with
      | none => rfl
      | some r => exact evCall_put hd
    | _ =>
      have hu : ∀ s2, evOp P C cF cD mu o s2 = (evV P mu o.dst s2.at s2 o.op).map (putR o.dst) := fun s2 => by
        unfold evOp; simp only [hop, hc]
      rw [hu, hu, evV_put h]
      simp only [Option.map_map]
      congr 1
      funext r
      simp only [Function.comp, putR, OpR.put]
      rw [put_put hd]
  case panic x =>
    have hx := hρ x (by rw [hop]; simp [Op.operands])
    have hu : ∀ s2, evOp P C cF cD mu o s2 = match s2.at x with | .ifc t y => some (.pan (.ifc t y) s2) | _ => none := fun s2 => by
      unfold evOp; simp only [hop]
      cases s2.at x <;> rfl
    rw [hu, hu, hx]
    cases s.at x <;> rfl
  case defer c =>
    cases hc : c.callee with
    | value f =>
      obtain ⟨h1, h2⟩ := args_at hc (by rw [hop] at hρ; exact hρ)
      have hu : ∀ s2, evOp P C cF cD mu o s2 = (callee (s2.at f) (c.args.toList.map s2.at)).map fun r => .ok .all ({ s2 with df := r :: s2.df }.put o.dst .undef) := fun s2 => by
        unfold evOp; simp only [hop, hc]
      rw [hu, hu, h1, h2]
      cases callee (s.at f) (c.args.toList.map s.at) with
      | none => rfl
      | some r =>
        simp only [Option.map_some, OpR.put]
        rw [← put_put hd]; rfl
    | _ =>
      have hu : ∀ s2, evOp P C cF cD mu o s2 = none := fun s2 => by
        unfold evOp; simp only [hop, hc]
      rw [hu, hu]; rfl
  all_goals
    have hu : ∀ s2, evOp P C cF cD mu o s2 = (evV P mu o.dst s2.at s2 o.op).map (putR o.dst) := fun s2 => by
      unfold evOp; simp only [hop]
    rw [hu, hu, evV_put h]
    simp only [Option.map_map]
    congr 1
    funext r
    simp only [Function.comp, putR, OpR.put]
    rw [put_put hd]
/-- A step of a region: an operation, or its leaving out. -/
def stepW (o : Oper) (s : St) : Bool → Option (Acc × St)
  | false => some (.no, s.put o.dst .undef)
  | true => match evOp P C cF cD mu o s with
    | some (.ok a s') => some (a, s')
    | _ => none
def step (ds : List (Option Tmp)) (o : Oper) (s : St) : Option (Acc × St) := (wanted ds s o).bind (stepW (P := P) (C := C) (cF := cF) (cD := cD) (mu := mu) o s)
theorem wanted_eq {ds : List (Option Tmp)} {o : Oper} {s s2 : St} (h : ∀ t, guardT ds o = some t → s2.at (.tmp t) = s.at (.tmp t)) : wanted ds s2 o = wanted ds s o := by
  unfold wanted
  split
  · rfl
  · rename_i j want hg
    split
    · rename_i t hd
      rw [h t (by unfold guardT; rw [hg]; simp [hd])]
    · rfl
theorem step_put {ds : List (Option Tmp)} {o : Oper} {s : St} {e : Option Tmp} {v : AV} (h : ∀ t, e = some t → Away ds t o) : step (P := P) (C := C) (cF := cF) (cD := cD) (mu := mu) ds o (s.put e v) = (step (P := P) (C := C) (cF := cF) (cD := cD) (mu := mu) ds o s).map fun r => (r.1, r.2.put e v) := by
  cases e with
  | none => unfold St.put; simp
  | some e =>
    have ha := h e rfl
    unfold step
    rw [wanted_eq (s := s) (fun t ht => at_put (fun q => ha.grd (by injection q with q; rw [ht, q])))]
    cases wanted ds s o with
    | none => rfl
    | some wt =>
      cases wt with
      | false =>
        simp only [Option.bind_some, stepW, Option.map_some]
        rw [put_put ha.dst]
      | true =>
        simp only [Option.bind_some, stepW]
        rw [evOp_put ha.ops ha.dst]
        cases evOp P C cF cD mu o s with
        | none => rfl
        | some r => cases r <;> rfl
/-- An operation's doing, apart from what it does not see. -/
def LocO (f : St → Option OpR) (o : Oper) (s : St) (a : Acc) (s' : St) : Prop :=
  ∃ (E : Eff) (v : AV), s' = (E.app s).put o.dst v ∧ E.fits a ∧ ∀ s2 : St, s2.kb = s.kb → (∀ x ∈ o.op.operands, s2.at x = s.at x) → Sees a s s2 → f s2 = some (.ok a ((E.app s2).put o.dst v))
theorem evV_locO {o : Oper} {s s' : St} {a : Acc} (ha : a ≠ .all) (h : (evV P mu o.dst s.at s o.op).map (putR o.dst) = some (.ok a s')) : LocO (fun s => (evV P mu o.dst s.at s o.op).map (putR o.dst)) o s a s' := by
  rw [Option.map_eq_some_iff] at h
  obtain ⟨⟨v, a', s1⟩, h1, h2⟩ := h
  unfold putR at h2
  injection h2 with h2 h3
  subst h2
  simp only at h3
  obtain ⟨E, e1, e2, e3, e4⟩ := (evV_loc h1).resolve_right (fun q => ha q.1)
  refine ⟨E, v, by rw [← e1]; exact h3.symm, e2, fun s2 hk ho hs => ?_⟩
  have hev : evV P mu o.dst s2.at s2 o.op = evV P mu o.dst s.at s2 o.op := by
    unfold evV
    rw [isE_congr ho, evE_congr ho, evP_congr ho]
  show (evV P mu o.dst s2.at s2 o.op).map (putR o.dst) = _
  rw [hev]
  have := e4 s2 hk hs
  rw [show (fun s2 => evV P mu o.dst s.at s2 o.op) s2 = evV P mu o.dst s.at s2 o.op from rfl] at this
  rw [this]; rfl
theorem backD_all {d : Option Tmp} {s s' : St} {r : Out × St} {a : Acc} (h : backD d s r = .ok a s') : a = .all := by
  obtain ⟨x, s1⟩ := r
  cases x with
  | ret x => unfold backD at h; injection h with h1 h2; exact h1.symm
  | pan x => unfold backD at h; cases h
theorem evCall_loc {d : Option Tmp} {f : FuncId} {args : List AV} {s s' : St} {a : Acc} (ha : a ≠ .all) (h : evCall C cF cD d f args s = some (.ok a s')) :
    a = .no ∧ ∃ v, s' = s.put d v ∧ ∀ s2, evCall C cF cD d f args s2 = some (.ok .no (s2.put d v)) := by
  have dir : ∀ {s1}, dirtyC cD d f args s = some (.ok a s1) → False := fun h => by
    unfold dirtyC at h
    rw [Option.map_eq_some_iff] at h
    obtain ⟨r, _, h⟩ := h
    exact ha (backD_all h)
  unfold evCall at h
  cases hd : C.dirty f with
  | true => rw [hd, cond_true] at h; exact (dir h).elim
  | false =>
    rw [hd, cond_false] at h
    cases hc : AV.cleanL (AV.shedL args) with
    | true =>
      rw [hc, cond_true, Option.map_eq_some_iff] at h
      obtain ⟨r, h1, h2⟩ := h
      cases r with
      | ret x =>
        unfold afterC at h2; injection h2 with h2 h3
        refine ⟨h2.symm, x, h3.symm, fun s2 => ?_⟩
        unfold evCall
        rw [hd, cond_false, hc, cond_true, h1]; rfl
      | pan x => unfold afterC at h2; cases h2
    | false =>
      rw [hc, cond_false] at h
      unfold snapC at h
      rw [Option.bind_eq_some_iff] at h
      obtain ⟨r, h1, h2⟩ := h
      cases hc2 : AV.cleanL r.1 with
      | true =>
        rw [hc2, cnd_true, Option.map_eq_some_iff] at h2
        obtain ⟨q, _, h2⟩ := h2
        cases q with
        | ret x => unfold afterC at h2; injection h2 with h2 h3; exact absurd h2.symm ha
        | pan x => unfold afterC at h2; cases h2
      | false => rw [hc2, cnd_false] at h2; exact (dir h2).elim
theorem evOp_loc {o : Oper} {s s' : St} {a : Acc} (ha : a ≠ .all) (h : evOp P C cF cD mu o s = some (.ok a s')) : LocO (evOp P C cF cD mu o) o s a s' := by
  cases hop : o.op <;> first
    | skip
  case call c =>
    cases hc : c.callee with
    | value f =>
      have hu : ∀ s2, evOp P C cF cD mu o s2 = (callee (s2.at f) (c.args.toList.map s2.at)).bind fun (g, xs) => evCall C cF cD o.dst g xs s2 := fun s2 => by
        unfold evOp; simp only [hop, hc]
      rw [hu, Option.bind_eq_some_iff] at h
      obtain ⟨⟨g, xs⟩, h1, h2⟩ := h
      obtain ⟨rfl, v, h3, h4⟩ := evCall_loc ha h2
      refine ⟨.id, v, h3, trivial, fun s2 _ ho _ => ?_⟩
      obtain ⟨e1, e2⟩ := args_at hc (by rw [hop] at ho; exact ho)
      rw [hu, e1, e2, h1]
      exact h4 s2
    | _ =>
      have hu : ∀ s2, evOp P C cF cD mu o s2 = (evV P mu o.dst s2.at s2 o.op).map (putR o.dst) := fun s2 => by
        unfold evOp; simp only [hop, hc]
      rw [hu] at h
      obtain ⟨E, v, e1, e2, e3⟩ := evV_locO ha h
      exact ⟨E, v, e1, e2, fun s2 q1 q2 q3 => by rw [hu]; exact e3 s2 q1 q2 q3⟩
  case panic x =>
    unfold evOp at h
    simp only [hop] at h
    split at h <;> cases h
  case defer c =>
    unfold evOp at h
    simp only [hop] at h
    split at h
    · rw [Option.map_eq_some_iff] at h
      obtain ⟨r, _, h⟩ := h
      injection h with h1 h2
      exact absurd h1.symm ha
    · cases h
  all_goals
    have hu : ∀ s2, evOp P C cF cD mu o s2 = (evV P mu o.dst s2.at s2 o.op).map (putR o.dst) := fun s2 => by
      unfold evOp; simp only [hop]
    rw [hu] at h
    obtain ⟨E, v, e1, e2, e3⟩ := evV_locO ha h
    exact ⟨E, v, e1, e2, fun s2 q1 q2 q3 => by rw [hu]; exact e3 s2 q1 q2 q3⟩
/-- Of the frame, an operation changes its own slot alone. -/
def Framed (o : Oper) (s s' : St) : Prop := s'.kb = s.kb ∧ ∃ v, s'.tm = (s.put o.dst v).tm
theorem framed_loc {o : Oper} {s : St} {E : Eff} {v : AV} : Framed o s ((E.app s).put o.dst v) := by
  refine ⟨?_, v, ?_⟩ <;> cases E <;> cases o.dst <;> rfl
theorem evV_framed {o : Oper} {s s' : St} {a : Acc} (h : (evV P mu o.dst s.at s o.op).map (putR o.dst) = some (.ok a s')) : Framed o s s' := by
  rw [Option.map_eq_some_iff] at h
  obtain ⟨⟨v, a', s1⟩, h1, h2⟩ := h
  unfold putR at h2
  injection h2 with h2 h3
  simp only at h3
  subst h3
  rcases evV_loc h1 with ⟨E, e1, _⟩ | ⟨_, c, hop, hcb⟩
  · rw [e1]; exact framed_loc
  · have he : evV P mu o.dst s.at s o.op = appC P mu (s.kb + o.dst.getD 0) (c.args.toList.map s.at) c.argTypes.toList s := by
      unfold evV; rw [hop]; simp only [isE, hcb, cnd_true, evE]
    rw [he] at h1
    have hf := appC_frm h1
    refine ⟨?_, v, ?_⟩
    · cases o.dst <;> exact hf.kb
    · cases o.dst with
      | none => exact hf.tm
      | some d => simp only [St.put]; rw [hf.tm]
theorem snap0_tm {x y : AV} {s s' : St} (h : snap0 x s = some (y, s')) : s'.tm = s.tm ∧ s'.kb = s.kb := by
  unfold snap0 at h
  split at h
  · injection h with h; simp only [Prod.mk.injEq] at h; obtain ⟨_, rfl⟩ := h; exact ⟨rfl, rfl⟩
  · rw [Option.bind_eq_some_iff] at h
    obtain ⟨b, _, h⟩ := h
    obtain ⟨_, h⟩ := cnd_some h
    injection h with h; simp only [Prod.mk.injEq] at h; obtain ⟨_, rfl⟩ := h; exact ⟨rfl, rfl⟩
  · injection h with h; simp only [Prod.mk.injEq] at h; obtain ⟨_, rfl⟩ := h; exact ⟨rfl, rfl⟩
theorem snapL_tm {f : AV → St → Option (AV × St)} (hf : ∀ {x y s s'}, f x s = some (y, s') → s'.tm = s.tm ∧ s'.kb = s.kb) : ∀ (l l' : List AV) (s s' : St), snapL f l s = some (l', s') → s'.tm = s.tm ∧ s'.kb = s.kb := by
  intro l
  induction l with
  | nil => intro l' s s' h; simp only [snapL, Option.some.injEq, Prod.mk.injEq] at h; obtain ⟨_, rfl⟩ := h; exact ⟨rfl, rfl⟩
  | cons x l ih =>
    intro l' s s' h
    simp only [snapL, Option.bind_eq_some_iff, Option.map_eq_some_iff] at h
    obtain ⟨⟨y, s1⟩, h1, ⟨l1, s2⟩, h2, h3⟩ := h
    simp only [Prod.mk.injEq] at h3
    obtain ⟨rfl, rfl⟩ := h3
    have a1 := hf h1
    have a2 := ih _ _ _ h2
    exact ⟨a2.1.trans a1.1, a2.2.trans a1.2⟩
theorem snap1_tm {x y : AV} {s s' : St} (h : snap1 x s = some (y, s')) : s'.tm = s.tm ∧ s'.kb = s.kb := by
  unfold snap1 at h
  split at h
  · rw [Option.map_eq_some_iff] at h
    obtain ⟨⟨l, s1⟩, h1, h2⟩ := h
    simp only [Prod.mk.injEq] at h2
    obtain ⟨rfl, rfl⟩ := h2
    exact snapL_tm (fun h => snap0_tm h) _ _ _ _ h1
  · exact snap0_tm h
theorem dirty_framed {o : Oper} {f : FuncId} {args : List AV} {s s' : St} {a : Acc} (h : dirtyC cD o.dst f args s = some (.ok a s')) : Framed o s s' := by
  unfold dirtyC at h
  rw [Option.map_eq_some_iff] at h
  obtain ⟨⟨x, s1⟩, _, h⟩ := h
  cases x with
  | ret x =>
    unfold backD at h
    injection h with h1 h2
    subst h2
    refine ⟨?_, x, ?_⟩ <;> cases o.dst <;> rfl
  | pan x => unfold backD at h; cases h
theorem evCall_framed {o : Oper} {f : FuncId} {args : List AV} {s s' : St} {a : Acc} (h : evCall C cF cD o.dst f args s = some (.ok a s')) : Framed o s s' := by
  unfold evCall at h
  cases hd : C.dirty f with
  | true => rw [hd, cond_true] at h; exact dirty_framed h
  | false =>
    rw [hd, cond_false] at h
    cases hc : AV.cleanL (AV.shedL args) with
    | true =>
      rw [hc, cond_true, Option.map_eq_some_iff] at h
      obtain ⟨r, h1, h2⟩ := h
      cases r with
      | ret x =>
        unfold afterC at h2; injection h2 with h2 h3
        subst h3
        exact ⟨by cases o.dst <;> rfl, x, rfl⟩
      | pan x => unfold afterC at h2; cases h2
    | false =>
      rw [hc, cond_false] at h
      unfold snapC at h
      rw [Option.bind_eq_some_iff] at h
      obtain ⟨r, h1, h2⟩ := h
      cases hc2 : AV.cleanL r.1 with
      | true =>
        rw [hc2, cnd_true, Option.map_eq_some_iff] at h2
        obtain ⟨q, _, h2⟩ := h2
        have ht := snapL_tm (fun h => snap1_tm h) _ _ _ _ h1
        cases q with
        | ret x =>
          unfold afterC at h2; injection h2 with h2 h3
          subst h3
          refine ⟨?_, x, ?_⟩
          · rw [← ht.2]; cases o.dst <;> rfl
          · cases o.dst with
            | none => exact ht.1
            | some d => simp only [St.put]; rw [ht.1]
        | pan x => unfold afterC at h2; cases h2
      | false => rw [hc2, cnd_false] at h2; exact dirty_framed h2
theorem evOp_framed {o : Oper} {s s' : St} {a : Acc} (h : evOp P C cF cD mu o s = some (.ok a s')) : Framed o s s' := by
  by_cases ha : a = .all
  · subst ha
    cases hop : o.op <;> first
      | skip
    case call c =>
      cases hc : c.callee with
      | value f =>
        unfold evOp at h
        simp only [hop, hc] at h
        rw [Option.bind_eq_some_iff] at h
        obtain ⟨⟨g, xs⟩, _, h⟩ := h
        exact evCall_framed h
      | _ =>
        unfold evOp at h
        simp only [hop, hc] at h
        rw [← hop] at h
        exact evV_framed h
    case panic x =>
      unfold evOp at h
      simp only [hop] at h
      split at h <;> cases h
    case defer c =>
      unfold evOp at h
      simp only [hop] at h
      split at h
      · rw [Option.map_eq_some_iff] at h
        obtain ⟨r, _, h⟩ := h
        injection h with h1 h2
        subst h2
        exact ⟨by cases o.dst <;> rfl, .undef, by cases o.dst <;> rfl⟩
      · cases h
    all_goals
      unfold evOp at h
      simp only [hop] at h
      rw [← hop] at h
      exact evV_framed h
  · obtain ⟨E, v, e1, _, _⟩ := evOp_loc ha h
    rw [e1]; exact framed_loc
end
end Go.Ev
