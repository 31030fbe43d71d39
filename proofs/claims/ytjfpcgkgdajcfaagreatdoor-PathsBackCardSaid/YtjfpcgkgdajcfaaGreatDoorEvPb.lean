/-
  Evaluation along a path: calls, regions, code; no condition.
-/
import Derived.Test.YtjfpcgkgdajcfaaGreatDoorEvPa
namespace Go.Ev
open Go

section
variable {α : Type}
theorem put_at {s : St} {t : Tmp} {x : AV} (h : s.at (.tmp t) = x) : s.put (some t) x = s := by
  subst h
  show { s with tm := s.tm.set t (s.tm.getD t .undef) } = s
  have : s.tm.set t (s.tm.getD t .undef) = s.tm := by
    apply List.ext_getElem?
    intro i
    rw [List.getElem?_set]
    split
    · rename_i h; subst h
      split
      · rename_i h1
        rw [List.getD_eq_getElem?_getD, List.getElem?_eq_getElem h1]; rfl
      · rename_i h1
        rw [List.getElem?_eq_none (by omega)]
    · rfl
  rw [this]
def putC (s : St) (c : Operand) (t : Bool) : St := match c with
  | .tmp i => s.put (some i) (.bool t)
  | _ => s
theorem putC_eq {s : St} {c : Operand} {t : Bool} (h : s.at c = .bool t) : putC s c t = s := by
  unfold putC
  split
  · exact put_at h
  · rfl
/-- Is an operation wanted? -/
def guardM (ds : List (Option Tmp)) (s : St) (o : Oper) (f : Bool → St → M α) : M α := match o.guard with
  | none => f true s
  | some (j, want) => takeM (bindM (liftM (wanted ds s o)) fun w => f w s) fun x => match ds[j]? with
    | some (some t) => preM (s.at (.tmp t) = .bool x) (f (x == want) (s.put (some t) (.bool x)))
    | _ => noM
theorem Ok.guard {ds : List (Option Tmp)} {s : St} {o : Oper} {f : Bool → St → M α} {h : Bool → Option α} (hk : ∀ w, Ok (f w s) (h w)) : Ok (guardM ds s o f) ((wanted ds s o).bind h) := by
  unfold guardM
  split
  · rename_i hg
    have : wanted ds s o = some true := by unfold wanted; rw [hg]
    rw [this]; exact hk true
  · rename_i j want hg
    refine Ok.take (Ok.bind (.lift _) hk) fun x => ?_
    split
    · rename_i t hd
      refine Ok.pre fun hx => ?_
      have : wanted ds s o = some (x == want) := by
        unfold wanted
        simp only [hg, hd, hx, AV.gd]
      rw [this, put_at hx]
      exact hk _
    · exact Ok.no _
end
def snap0M (x : AV) (s : St) : M (AV × St) := match x with
  | .hs k g _ lo len _ => withBlk s k g fun b => asmM (decide (lo + len ≤ b.els.length)) (ret (.sl false b.n ((b.els.drop lo).take len) .no, frzK s k))
  | x => liftM (snap0 x s)
def snapLM (f : AV → St → M (AV × St)) : List AV → St → M (List AV × St)
  | [], s => ret ([], s)
  | x :: l, s => bindM (f x s) fun r => mapM' (fun q => (r.1 :: q.1, q.2)) (snapLM f l r.2)
def snap1M (x : AV) (s : St) : M (AV × St) := match x with
  | .agg cs => mapM' (fun r => (.agg r.1, r.2)) (snapLM snap0M cs s)
  | x => snap0M x s
def snapM (x : AV) (s : St) : M (AV × St) := match x with
  | .tup cs => mapM' (fun r => (.tup r.1, r.2)) (snapLM snap1M cs s)
  | x => snap1M x s
theorem snap0M_ok {x : AV} {s : St} : Ok (snap0M x s) (snap0 x s) := by
  unfold snap0M
  split
  · simp only [snap0]
    refine Ok.blk fun b hb hg => Ok.asm fun _ => ?_
    rw [frz_K hb hg]; exact Ok.ret _
  · exact .lift _
theorem snapLM_ok {f : AV → St → M (AV × St)} {f' : AV → St → Option (AV × St)} (h : ∀ x s, Ok (f x s) (f' x s)) : ∀ (l : List AV) (s : St), Ok (snapLM f l s) (snapL f' l s) := by
  intro l
  induction l with
  | nil => intro s; exact Ok.ret _
  | cons x l ih => intro s; exact Ok.bind (h x s) fun r => Ok.map (f := fun q => (r.1 :: q.1, q.2)) (ih r.2)
theorem snap1M_ok {x : AV} {s : St} : Ok (snap1M x s) (snap1 x s) := by
  unfold snap1M
  split
  · exact Ok.map (f := fun r => (AV.agg r.1, r.2)) (snapLM_ok (fun x s => snap0M_ok) _ _)
  · rename_i hx
    have : snap1 x s = snap0 x s := by
      unfold snap1
      split
      · exact absurd rfl (hx _)
      · rfl
    rw [this]; exact snap0M_ok
theorem snapM_ok {x : AV} {s : St} : Ok (snapM x s) (snap x s) := by
  unfold snapM
  split
  · exact Ok.map (f := fun r => (AV.tup r.1, r.2)) (snapLM_ok (fun x s => snap1M_ok) _ _)
  · rename_i hx
    have : snap x s = snap1 x s := by
      unfold snap
      split
      · exact absurd rfl (hx _)
      · rfl
    rw [this]; exact snap1M_ok
/-- Functions with a meaning of their own in the caller's state, along a path. -/
structure Env (P : Program) (C : Cfg) where
  X : FuncId → Option (List AV → St → M (AV × St))
  ok : ∀ f h, X f = some h → ∃ h', C.extD f = some h' ∧ ∀ args s, Ok (h args s) (h' args s)
section
variable {P : Program} {C : Cfg} (E : Env P C) (cF : FuncId → List AV → Option Out) (cD : FuncId → List AV → St → Option (Out × St)) (mu : Bool)
def oV (P : Program) (mu : Bool) (d : Option Tmp) (ρ : Operand → AV) (s : St) (op : Op) : M (AV × Acc × St) :=
  eithM (isE P ρ op) (oE P mu d ρ s op) (mapM' (noE s) (oP P ρ op))
/-- The state in which a call in the caller's own state begins. -/
def callSt (d : Option Tmp) (s : St) : St := { s with tm := [], df := [], kb := kbUp s.kb (d.getD 0) }
def oCall (d : Option Tmp) (f : FuncId) (args : List AV) (s : St) : M OpR
  | .d r :: p => cnd (C.dirty f) (some ([cD f args (callSt d s) = some r], [], backD d s r, p)) none
  | .o out :: p => cnd (C.dirty f) none (asmM (AV.cleanL (AV.shedL args)) (preM (cF f (AV.shedL args) = some out) (ret (afterC .no d s out))) p)
  | .n out :: p => cnd (C.dirty f) none (asmM (!AV.cleanL (AV.shedL args)) (bindM (snapLM snap1M args s) fun r => asmM (AV.cleanL r.1) (preM (cF f r.1 = some out) (ret (afterC .all d r.2 out)))) p)
  | .u _ :: p => some ([False], [], .pan .undef (callSt d s), p)
  | .e :: p => cnd (C.dirty f) (match E.X f with
    | some h => preM (∀ args s h', C.extD f = some h' → cD f args s = (h' args s).map fun r => (Out.ret r.1, r.2)) (mapM' (fun r => backD d s (.ret r.1, r.2)) (h args (callSt d s))) p
    | none => none) none
  | _ => none
def oOp (o : Oper) (s : St) : M OpR :=
  match o.op with
  | .call c => match c.callee with
    | .value f => bindM (liftM (callee (s.at f) (c.args.toList.map s.at))) fun r => oCall E cF cD o.dst r.1 r.2 s
    | _ => mapM' (putR o.dst) (oV P mu o.dst s.at s (.call c))
  | .panic x => match s.at x with
    | .ifc t y => ret (.pan (.ifc t y) s)
    | _ => noM
  | .defer _ => liftM (evOp P C cF cD mu o s)
  | .pick c x y => takeM (liftM (evOp P C cF cD mu o s)) fun t => preM (s.at c = .bool t) (ret (putR o.dst (noE (putC s c t) (bif t then (putC s c t).at x else (putC s c t).at y))))
  | op => mapM' (putR o.dst) (oV P mu o.dst s.at s op)
def oK {α : Type} (p : AV → St → M α) (K : Acc → St → M α) : OpR → M α
  | .ok a s => K a s
  | .pan x s => p x s
def oSeq (ds : List (Option Tmp)) : List Oper → St → M (Ex × St)
  | [], s => ret (.normal, s)
  | o :: l, s => guardM ds s o fun w s => eithM w (bindM (oOp E cF cD mu o s) (oK (fun x s => ret (.pan x, s)) fun _ s => oSeq ds l s)) (oSeq ds l (s.put o.dst .undef))
abbrev DR := Option (Nat × AV) × List (Nat × Acc) × St
def oDraw (ds : List (Option Tmp)) : List (Nat × Oper) → List (Nat × Acc) → St → M DR
  | [], tc, s => ret (none, tc, s)
  | (i, o) :: l, tc, s => guardM ds s o fun w s => eithM w (bindM (oOp E cF cD mu o s) (oK (fun x s => ret (some (i, x), tc, s)) fun a s => oDraw ds l ((i, a) :: tc) s)) (oDraw ds l tc (s.put o.dst .undef))
def oEnd (ops : Array Oper) (r : DR) : M (Ex × St) := match r with
  | (some (_, .tup []), _, s) => fun p => some ([False], [], (.pan .undef, s), p)
  | r => liftM (endDraw ops r)
/-- Rounds of a loop one by one, then what is left of it. -/
def oLoop (bE : St → Option (Ex × St)) (bO : St → M (Ex × St)) : Nat → Nat → St → M (Ex × St)
  | 0, m, s => fun p => match p with
    | .l r :: p => some ([loopN bE m s = some r], [], r, p)
    | .u _ :: p => some ([False], [], (.pan .undef, s), p)
    | _ => none
  | n + 1, m, s => match m with
    | 0 => noM
    | m + 1 => bindM (bO s) fun r => match r with
      | (.normal, s') => oLoop bE bO n m s'
      | r => ret r
variable (m : Nat)
def lpM (m : Nat) (b : St → Option (Ex × St)) : St → Option (Ex × St) := loopN b m
def oC : Code → St → M (Ex × St)
  | .skip, s => ret (.normal, s)
  | .region _ ops draw, s => eithM draw (bindM (oDraw E cF cD mu (ops.toList.map (·.dst)) (numbered 0 ops.toList) [] s) (oEnd ops)) (oSeq E cF cD mu (ops.toList.map (·.dst)) ops.toList s)
  | .seq a b, s => bindM (oC a s) fun r => match r with
    | (.normal, s) => oC b s
    | r => ret r
  | .cond c a b, s => takeM (bindM (liftM (s.at c).asB) fun t => eithM t (oC a s) (oC b s)) fun t => preM (s.at c = .bool t) (eithM t (oC a (putC s c t)) (oC b (putC s c t)))
  | .block id c, s => mapM' (blkK id) (oC c s)
  | .loop c, s => fun p => match p with
    | .u n :: p => oLoop (fun s => (evC P C cF cD mu (lpM m) c s).map (dropB mu s)) (fun s => mapM' (dropB mu s) (oC c s)) n m s p
    | _ => none
  | .scope c, s => oC c s
  | .label _, s => ret (.normal, s)
  | .exit id, s => ret (.exit id, s)
  | .ret, s => ret (.ret, s)
  | _, _ => noM
end
section
variable {P : Program} {C : Cfg} {E : Env P C} {cF : FuncId → List AV → Option Out} {cD : FuncId → List AV → St → Option (Out × St)} {mu : Bool} {m : Nat}
theorem oV_ok {d : Option Tmp} {ρ : Operand → AV} {s : St} {op : Op} : Ok (oV P mu d ρ s op) (evV P mu d ρ s op) := by
  unfold oV evV
  exact Ok.eithc oE_ok (Ok.map oP_ok)
theorem oCall_ok {d : Option Tmp} {f : FuncId} {args : List AV} {s : St} : Ok (oCall E cF cD d f args s) (evCall C cF cD d f args s) := by
  intro p cs es r q e hc hs
  unfold oCall at e
  unfold evCall
  split at e
  · obtain ⟨h1, e⟩ := cnd_some e
    simp only [Option.some.injEq, Prod.mk.injEq] at e
    obtain ⟨rfl, rfl, rfl, _⟩ := e
    rw [h1, cond_true]
    unfold dirtyC
    have := hc.1
    unfold callSt at this
    rw [this]; rfl
  · obtain ⟨h1, e⟩ := cnd_none e
    rw [h1, cond_false]
    refine Ok.asm' (y := bif AV.cleanL (AV.shedL args) then (cF f (AV.shedL args)).map (afterC .no d s) else snapC cF cD d f args s) (fun h2 => Ok.pre fun h3 => ?_) _ _ _ _ _ e hc hs
    rw [h2, cond_true, h3]; exact Ok.ret _
  · rename_i out p2
    obtain ⟨h1, e⟩ := cnd_none e
    rw [h1, cond_false]
    refine Ok.asm' (y := bif AV.cleanL (AV.shedL args) then (cF f (AV.shedL args)).map (afterC .no d s) else snapC cF cD d f args s) (fun h2 => ?_) _ _ _ _ _ e hc hs
    rw [Bool.not_eq_true'] at h2
    rw [h2, cond_false]
    unfold snapC
    refine Ok.bind (snapLM_ok (fun x s => snap1M_ok) _ _) fun r => Ok.asm' fun h3 => Ok.pre fun h4 => ?_
    rw [h3, cnd_true, h4]; exact Ok.ret _
  · simp only [Option.some.injEq, Prod.mk.injEq] at e
    obtain ⟨rfl, _⟩ := e
    exact hc.1.elim
  · obtain ⟨h1, e⟩ := cnd_some e
    rw [h1, cond_true]
    split at e
    · rename_i h hX
      obtain ⟨h', hx, hok⟩ := E.ok f h hX
      refine Ok.pre (y := dirtyC cD d f args s) (fun hcd => ?_) _ _ _ _ _ e hc hs
      unfold dirtyC
      rw [show ({ s with tm := [], df := [], kb := kbUp s.kb (d.getD 0) } : St) = callSt d s from rfl, hcd args (callSt d s) h' hx, Option.map_map]
      exact Ok.map (hok args (callSt d s))
    · cases e
  · cases e
theorem oOp_ok {o : Oper} {s : St} : Ok (oOp E cF cD mu o s) (evOp P C cF cD mu o s) := by
  unfold oOp
  cases hop : o.op <;> first
    | skip
  case call c =>
    cases hc : c.callee with
    | value f =>
      have hu : evOp P C cF cD mu o s = (callee (s.at f) (c.args.toList.map s.at)).bind fun (g, xs) => evCall C cF cD o.dst g xs s := by
        unfold evOp; simp only [hop, hc]
      rw [hu]
      simp only [hc]
      exact Ok.bind (.lift _) fun r => oCall_ok
    | _ =>
      have hu : evOp P C cF cD mu o s = (evV P mu o.dst s.at s (.call c)).map (putR o.dst) := by
        unfold evOp; simp only [hop, hc]
      rw [hu]
      simp only [hc]
      exact Ok.map oV_ok
  case panic x =>
    have hu : evOp P C cF cD mu o s = match s.at x with | .ifc t y => some (.pan (.ifc t y) s) | _ => none := by
      unfold evOp; simp only [hop]
      cases s.at x <;> rfl
    rw [hu]
    simp only
    split
    · exact Ok.ret _
    · exact Ok.no _
  case pick c x y =>
    simp only
    refine Ok.take (.lift _) fun t => Ok.pre fun ht => ?_
    rw [putC_eq ht]
    have hu : evOp P C cF cD mu o s = some (putR o.dst (noE s (bif t then s.at x else s.at y))) := by
      unfold evOp
      simp only [hop, evV, isE, cnd_false, evP, ht, AV.asB, Option.map_some]
    rw [hu]; exact Ok.ret _
  case defer c => exact .lift _
  all_goals
    have hu : evOp P C cF cD mu o s = (evV P mu o.dst s.at s o.op).map (putR o.dst) := by
      unfold evOp; simp only [hop]
    rw [hu, hop]
    exact Ok.map oV_ok
theorem oSeq_ok {ds : List (Option Tmp)} : ∀ (l : List Oper) (s : St), Ok (oSeq E cF cD mu ds l s) (evSeq P C cF cD mu ds l s) := by
  intro l
  induction l with
  | nil => intro s; exact Ok.ret _
  | cons o l ih =>
    intro s
    unfold oSeq evSeq
    refine Ok.guard (h := wantK (opT P C cF cD mu o (evSeq P C cF cD mu ds l)) (evSeq P C cF cD mu ds l) s (s.put o.dst .undef)) fun w => ?_
    cases w with
    | true =>
      refine Ok.eith (fun _ => ?_) (fun h => by cases h)
      show Ok _ ((evOp P C cF cD mu o s).bind (opK (evSeq P C cF cD mu ds l)))
      refine Ok.bind oOp_ok fun r => ?_
      cases r with
      | ok a s => exact ih s
      | pan x s => exact Ok.ret _
    | false => exact Ok.eith (fun h => by cases h) fun _ => ih _
theorem oDraw_ok {ds : List (Option Tmp)} : ∀ (l : List (Nat × Oper)) (tc : List (Nat × Acc)) (s : St), Ok (oDraw E cF cD mu ds l tc s) (evDraw P C cF cD mu ds l tc s) := by
  intro l
  induction l with
  | nil => intro tc s; exact Ok.ret _
  | cons c l ih =>
    obtain ⟨i, o⟩ := c
    intro tc s
    unfold oDraw evDraw
    refine Ok.guard (h := wantK (opTD P C cF cD mu o (evDraw P C cF cD mu ds l) i tc) (evDraw P C cF cD mu ds l tc) s (s.put o.dst .undef)) fun w => ?_
    cases w with
    | true =>
      refine Ok.eith (fun _ => ?_) (fun h => by cases h)
      show Ok _ ((evOp P C cF cD mu o s).bind (opD (evDraw P C cF cD mu ds l) i tc))
      refine Ok.bind oOp_ok fun r => ?_
      cases r with
      | ok a s => exact ih _ s
      | pan x s => exact Ok.ret _
    | false => exact Ok.eith (fun h => by cases h) fun _ => ih _ _
theorem oEnd_ok {ops : Array Oper} {r : DR} : Ok (oEnd ops r) (endDraw ops r) := by
  unfold oEnd
  split
  · intro p cs es a q e hc hs
    simp only [Option.some.injEq, Prod.mk.injEq] at e
    obtain ⟨rfl, _⟩ := e
    exact hc.1.elim
  · exact .lift _
theorem oLoop_ok {bE : St → Option (Ex × St)} {bO : St → M (Ex × St)} (h : ∀ s, Ok (bO s) (bE s)) : ∀ (n m : Nat) (s : St), Ok (oLoop bE bO n m s) (loopN bE m s) := by
  intro n
  induction n with
  | zero =>
    intro m s p cs es a q e hc hs
    unfold oLoop at e
    split at e
    · simp only [Option.some.injEq, Prod.mk.injEq] at e
      obtain ⟨rfl, rfl, rfl, _⟩ := e
      exact hc.1
    · simp only [Option.some.injEq, Prod.mk.injEq] at e
      obtain ⟨rfl, _⟩ := e
      exact hc.1.elim
    · cases e
  | succ n ih =>
    intro m s
    cases m with
    | zero => exact Ok.no _
    | succ m =>
      show Ok (bindM (bO s) fun r => match r with
        | (.normal, s') => oLoop bE bO n m s'
        | r => ret r) ((bE s).bind fun r => match r with
        | (.normal, s') => loopN bE m s'
        | r => some r)
      refine Ok.bind (h s) fun r => ?_
      obtain ⟨e, s1⟩ := r
      cases e with
      | normal => exact ih _ _
      | _ => exact Ok.ret _
theorem oC_ok : ∀ (c : Code) (s : St), Ok (oC E cF cD mu m c s) (evC P C cF cD mu (lpM m) c s) := by
  intro c
  induction c with
  | skip => intro s; exact Ok.ret _
  | label l => intro s; exact Ok.ret _
  | exit id => intro s; exact Ok.ret _
  | ret => intro s; exact Ok.ret _
  | region id ops draw =>
    intro s
    unfold oC evC
    exact Ok.eithc (Ok.bind (oDraw_ok _ _ _) fun r => oEnd_ok) (oSeq_ok _ _)
  | seq a b iha ihb =>
    intro s
    unfold oC evC
    refine Ok.bind (iha s) fun r => ?_
    obtain ⟨e, s1⟩ := r
    cases e with
    | normal => exact ihb _
    | _ => exact Ok.ret _
  | cond c a b iha ihb =>
    intro s
    unfold oC evC
    refine Ok.take (Ok.bind (.lift _) fun t => ?_) fun t => Ok.pre fun ht => ?_
    · cases t with
      | true => exact Ok.eith (fun _ => iha s) fun h => by cases h
      | false => exact Ok.eith (fun h => by cases h) fun _ => ihb s
    · rw [putC_eq ht, ht]
      cases t with
      | true => exact Ok.eith (fun _ => iha s) fun h => by cases h
      | false => exact Ok.eith (fun h => by cases h) fun _ => ihb s
  | block id c ih => intro s; unfold oC evC; exact Ok.map (ih s)
  | loop c ih =>
    intro s p cs es a q e hc hs
    unfold oC at e
    unfold evC
    split at e
    · exact oLoop_ok (fun s => Ok.map (ih s)) _ _ _ _ _ _ _ _ e hc hs
    · cases e
  | scope c ih => intro s; unfold oC evC; exact ih s
  | _ => intro s; exact Ok.no _
end
end Go.Ev
