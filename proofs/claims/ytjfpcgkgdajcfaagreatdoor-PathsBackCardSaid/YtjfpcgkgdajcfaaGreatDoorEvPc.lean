/-
  Evaluation along a path: calls as a whole, loops; what a proof leans on; no condition.
-/
import Derived.Test.YtjfpcgkgdajcfaaGreatDoorEvPb
namespace Go.Ev
open Go

abbrev Dt : D := .b true
abbrev Df : D := .b false
/-- Conditions that hold. -/
def CL := { cs : List Prop // Hold cs }
def c0 : CL := ⟨[], trivial⟩
def cB {e x : Bool} (h : e = x) (r : CL) : CL := ⟨(AV.bool e = AV.bool x) :: r.1, congrArg _ h, r.2⟩
def cP {p : Prop} (h : p) (r : CL) : CL := ⟨p :: r.1, h, r.2⟩
def chk {α : Type} (t : R α) : Option (List Prop × List Nat × α) := match t with
  | some (cs, es, a, []) => some (cs, es.map (·.1), a)
  | _ => none
def snds {α : Type} (t : R α) : List Nat := match t with
  | some (_, es, _) => es.map (·.2)
  | none => []
def stOf (t : R (Ex × St)) : St := match t with
  | some (_, _, (_, s), _) => s
  | none => { tm := [], kb := 0, hp := [], nx := fun _ => 0, lv := [], df := [] }
def stOfD (t : R (Out × St)) : St := match t with
  | some (_, _, (_, s), _) => s
  | none => { tm := [], kb := 0, hp := [], nx := fun _ => 0, lv := [], df := [] }
theorem chk_ok {α : Type} {x : M α} {y : Option α} (h : Ok x y) {p : List D} (cs : CL) {a : α} (hk : chk (x p) = some (cs.1, snds (x p), a)) : y = some a := by
  unfold chk at hk
  split at hk
  · rename_i c e b hx
    rw [hx] at hk
    simp only [snds, Option.some.injEq, Prod.mk.injEq] at hk
    obtain ⟨h1, h2, h3⟩ := hk
    subst h3
    refine h p c e b [] hx (by rw [h1]; exact cs.2) fun q hq => ?_
    obtain ⟨i, hi⟩ := List.mem_iff_getElem?.1 hq
    have := congrArg (fun l => l[i]?) h2
    simp only [List.getElem?_map, hi, Option.map_some, Option.some.injEq] at this
    exact this
  · cases hk
theorem chk_val {α : Type} {x : R α} {cs : List Prop} {es : List Nat} {a : α} (h : chk x = some (cs, es, a)) : ∃ c e, x = some (c, e, a, []) := by
  unfold chk at h
  split at h
  · simp only [Option.some.injEq, Prod.mk.injEq] at h
    obtain ⟨_, _, rfl⟩ := h
    exact ⟨_, _, rfl⟩
  · cases h
section
variable (P : Program) (C : Cfg)
def result1M (s : St) : ResultVar → M AV
  | .tmp t => ret (s.tm.getD t .undef)
  | .cell a t => match s.tm.getD a .undef with
    | .pt k g i o => withBlk s k g fun b => bindM (elO P b i) fun e => bindM (liftM (tyi P t)) fun y => liftM (prt y.1 o y.2 e.cells)
    | _ => noM
def resLM (s : St) : List ResultVar → M (List AV)
  | [] => ret []
  | v :: l => bindM (result1M P s v) fun x => mapM' (x :: ·) (resLM s l)
def resultsM (fn : Func) (s : St) : M AV := mapM' pack (resLM P s fn.results.toList)
def finM (fn : Func) : Ex × St → M (Out × St)
  | (.exit _, _) => noM
  | (.pan x, s) => bindM (liftM (leave C s.df (some x) s)) fun r => match r with
    | (none, s') => mapM' (fun y => (.ret y, s')) (resultsM P fn s')
    | (some y, s') => ret (.pan y, s')
  | (_, s) => bindM (liftM (leave C s.df none s)) fun r => mapM' (fun y => (.ret y, r.2)) (resultsM P fn r.2)
def shutM : Out × St → M Out
  | (.ret x, s) => bindM (snapM x s) fun r => asmM r.1.clean (ret (.ret r.1))
  | (.pan x, s) => bindM (snapM x s) fun r => asmM r.1.clean (ret (.pan r.1))
def st0 (fn : Func) (args : List AV) : St := { tm := enter fn args, kb := 0, hp := [], nx := fun _ => 0, lv := [], df := [] }
/-- A call of clean arguments, along a path. -/
def oF {P : Program} {C : Cfg} (E : Env P C) (k : Nat) (f : FuncId) (fn : Func) (c : Code) (args : List AV) : M Out :=
  mapM' (nrmO P f) (bindM (oC E (evF P C k) (evD P C k) (C.rows f) k c (st0 fn args)) fun r => bindM (finM P C fn r) shutM)
def stD (fn : Func) (args : List AV) (s : St) : St := { s with tm := enter fn args, df := [] }
/-- A call in the caller's own state. -/
def oD {P : Program} {C : Cfg} (E : Env P C) (k : Nat) (f : FuncId) (fn : Func) (c : Code) (args : List AV) (s : St) : M (Out × St) :=
  mapM' (pop (C.rows f) s) (bindM (oC E (evF P C k) (evD P C k) (C.rows f) k c (stD fn args s)) (finM P C fn))
/-- Code up to a call or a loop. -/
def oS {P : Program} {C : Cfg} (E : Env P C) (k : Nat) (f : FuncId) (c : Code) (s : St) : M (Ex × St) := oC E (evF P C k) (evD P C k) (C.rows f) k c s
variable {P : Program} {C : Cfg} {E : Env P C}
theorem result1M_ok {s : St} {v : ResultVar} : Ok (result1M P s v) (result1 P s v) := by
  cases v with
  | tmp t => exact Ok.ret _
  | cell a t =>
    cases hx : s.tm.getD a .undef with
    | pt k g i o =>
      simp only [result1M, result1, hx]
      exact Ok.blk fun b _ _ => Ok.bind elO_ok fun e => Ok.bind (.lift _) fun y => .lift _
    | _ => simp only [result1M, hx]; exact Ok.no _
theorem resLM_ok {s : St} : ∀ l : List ResultVar, Ok (resLM P s l) (l.mapM (result1 P s)) := by
  intro l
  induction l with
  | nil => exact Ok.ret _
  | cons v l ih =>
    rw [List.mapM_cons]
    show Ok _ ((result1 P s v).bind fun x => (l.mapM (result1 P s)).bind fun l => some (x :: l))
    refine Ok.bind result1M_ok fun x => ?_
    rw [show (l.mapM (result1 P s)).bind (fun l => some (x :: l)) = (l.mapM (result1 P s)).map (x :: ·) by cases l.mapM (result1 P s) <;> rfl]
    exact Ok.map ih
theorem resultsM_ok {fn : Func} {s : St} : Ok (resultsM P fn s) (results P fn s) := Ok.map (f := pack) (resLM_ok _)
theorem finM_ok {fn : Func} {r : Ex × St} : Ok (finM P C fn r) (finish P C fn r) := by
  obtain ⟨e, s⟩ := r
  cases e with
  | exit i => exact Ok.no _
  | pan x =>
    simp only [finM, finish]
    refine Ok.bind (.lift _) fun r => ?_
    obtain ⟨o, s'⟩ := r
    cases o with
    | none => exact Ok.map (f := fun y => (Out.ret y, s')) resultsM_ok
    | some y => exact Ok.ret _
  | normal =>
    simp only [finM, finish]
    exact Ok.bind (.lift _) fun r => Ok.map (f := fun y => (Out.ret y, r.2)) resultsM_ok
  | ret =>
    simp only [finM, finish]
    exact Ok.bind (.lift _) fun r => Ok.map (f := fun y => (Out.ret y, r.2)) resultsM_ok
theorem shutM_ok {r : Out × St} : Ok (shutM r) (shut r) := by
  obtain ⟨x, s⟩ := r
  cases x with
  | ret x =>
    simp only [shutM, shut]
    exact Ok.bind snapM_ok fun r => Ok.asm fun _ => Ok.ret _
  | pan x =>
    simp only [shutM, shut]
    exact Ok.bind snapM_ok fun r => Ok.asm fun _ => Ok.ret _
/-- What is known of a function. -/
structure FnIs (P : Program) (C : Cfg) (f : FuncId) (fn : Func) (c : Code) : Prop where
  ok : callOk P f = true
  fnd : P.funcs[f]? = some fn
  bod : fn.body = some c
theorem oF_ok {k : Nat} {f : FuncId} {fn : Func} {c : Code} {args : List AV} (hf : FnIs P C f fn c) (hx : C.ext f = none) : Ok (oF E k f fn c args) (evF P C (k + 1) f args) := by
  unfold oF evF stepF
  rw [hf.ok, cnd_true, hx]
  simp only [body, frame, hf.fnd, hf.bod, Option.bind_some, Option.map_some, Option.getD_some]
  refine Ok.map ?_
  rw [Option.bind_assoc]
  exact Ok.bind (oC_ok _ _) fun r => Ok.bind finM_ok fun o => shutM_ok
theorem oD_ok {k : Nat} {f : FuncId} {fn : Func} {c : Code} {args : List AV} {s : St} (hf : FnIs P C f fn c) (hx : C.extD f = none) : Ok (oD E k f fn c args s) (evD P C (k + 1) f args s) := by
  unfold oD evD stepD
  rw [hf.ok, cnd_true, hx]
  simp only [body, frame, hf.fnd, hf.bod, Option.bind_some, Option.map_some, Option.getD_some]
  exact Ok.map (Ok.bind (oC_ok _ _) fun r => finM_ok)
theorem oS_ok {k : Nat} {f : FuncId} {c : Code} {s : St} : Ok (oS E k f c s) (evC P C (evF P C k) (evD P C k) (C.rows f) (lpM k) c s) := oC_ok _ _
/-- A function that stands for another one. -/
theorem ext_eq {k : Nat} {f : FuncId} {h : List AV → Option AV} {args : List AV} {x : AV} (hok : callOk P f = true) (hx : C.ext f = some h) (ha : h args = some x) : evF P C (k + 1) f args = some (.ret x) := by
  unfold evF stepF
  rw [hok, cnd_true, hx]
  simp only [ha, Option.map_some]
theorem extD_eq {k : Nat} {f : FuncId} {h : List AV → St → Option (AV × St)} {args : List AV} {s : St} {r : AV × St} (hok : callOk P f = true) (hx : C.extD f = some h) (ha : h args s = some r) : evD P C (k + 1) f args s = some (.ret r.1, r.2) := by
  unfold evD stepD
  rw [hok, cnd_true, hx]
  simp only [ha, Option.map_some]
end
/-- A loop's body, a round of it. -/
def bEv (P : Program) (C : Cfg) (k : Nat) (f : FuncId) (c : Code) (s : St) : Option (Ex × St) := (evC P C (evF P C k) (evD P C k) (C.rows f) (lpM k) c s).map (dropB (C.rows f) s)
def oB {P : Program} {C : Cfg} (E : Env P C) (k : Nat) (f : FuncId) (c : Code) (s : St) : M (Ex × St) := mapM' (dropB (C.rows f) s) (oS E k f c s)
theorem oB_ok {P : Program} {C : Cfg} {E : Env P C} {k : Nat} {f : FuncId} {c : Code} {s : St} : Ok (oB E k f c s) (bEv P C k f c s) := Ok.map oS_ok
/-- A round of a loop that goes on. -/
theorem lpGo {P : Program} {C : Cfg} {E : Env P C} {k : Nat} {f : FuncId} {c : Code} {p : List D} {m : Nat} {s : St} {g : St → St} {Q : Option (Ex × St) → Prop} (cs : CL)
    (k' : ∀ s', Q (loopN (bEv P C k f c) m (g s')))
    (hk : chk (oB E k f c s p) = some (cs.1, snds (oB E k f c s p), (.normal, g (stOf (oB E k f c s p))))) : Q (loopN (bEv P C k f c) (m + 1) s) := by
  have h1 := chk_ok oB_ok cs hk
  have := k' (stOf (oB E k f c s p))
  unfold loopN
  rw [h1, Option.bind_some]
  exact this
def exN : Ex → Bool
  | .normal => true
  | _ => false
/-- A round that ends it. -/
theorem lpEnd {P : Program} {C : Cfg} {E : Env P C} {k : Nat} {f : FuncId} {c : Code} {p : List D} {m : Nat} {s : St} {ex : Ex} {g : St → St} {Q : Option (Ex × St) → Prop} (cs : CL) (hex : exN ex = false)
    (k' : ∀ s', Q (some (ex, g s')))
    (hk : chk (oB E k f c s p) = some (cs.1, snds (oB E k f c s p), (ex, g (stOf (oB E k f c s p))))) : Q (loopN (bEv P C k f c) (m + 1) s) := by
  have h1 := chk_ok oB_ok cs hk
  have := k' (stOf (oB E k f c s p))
  unfold loopN
  rw [h1, Option.bind_some]
  cases ex <;> first | (cases hex; done) | exact this
/-- A call of clean arguments. -/
theorem fnOk {P : Program} {C : Cfg} {E : Env P C} {k : Nat} {f : FuncId} {fn : Func} {c : Code} {args : List AV} (hf : FnIs P C f fn c) (hx : C.ext f = none) (p : List D) (cs : CL) {out : Out}
    (hk : chk (oF E k f fn c args p) = some (cs.1, snds (oF E k f fn c args p), out)) : evF P C (k + 1) f args = some out := chk_ok (oF_ok hf hx) cs hk
/-- Cells of a state of which no more is known. -/
def ovr (s : St) : Nat → Nat → List (Nat × AV) → List AV
  | 0, _, _ => []
  | n + 1, i, [] => s.tm.getD i .undef :: ovr s n (i + 1) []
  | n + 1, i, (j, x) :: l => bif j == i then x :: ovr s n (i + 1) l else s.tm.getD i .undef :: ovr s n (i + 1) ((j, x) :: l)
def blkG (s : St) (i : Nat) : Nat := (s.hp.getD i default).g
def lvG (s : St) (i : Nat) : Nat := (s.lv.getD i default).2.1
def jB (s : St) (i k : Nat) (va : Bool) : Blk := { s.hp.getD i default with k := k, va := va }
def jL (s : St) (i k : Nat) : Nat × Nat × Nat × TypeId := (k, (s.lv.getD i default).2)
def Code.sub' : Code → List Nat → Code
  | c, [] => c
  | .seq a _, 0 :: l => Code.sub' a l
  | .seq _ b, 1 :: l => Code.sub' b l
  | .cond _ a _, 0 :: l => Code.sub' a l
  | .cond _ _ b, 1 :: l => Code.sub' b l
  | .block _ c, 0 :: l => Code.sub' c l
  | .loop c, 0 :: l => Code.sub' c l
  | .scope c, 0 :: l => Code.sub' c l
  | _, _ => .skip
/-- A cell of an element of a list. -/
def eI (els : List AV) (j q : Nat) : Int := AV.intOf (AV.cell (List.getD els j .undef) q)
def eB (els : List AV) (j q : Nat) : Bool := AV.boolOf (AV.cell (List.getD els j .undef) q)
def eS (els : List AV) (j q : Nat) : List UInt8 := AV.strOf (AV.cell (List.getD els j .undef) q)
def eN (els : List AV) (j q : Nat) : Bool := AV.nilOf (AV.cell (List.getD els j .undef) q)
def eL (els : List AV) (j q : Nat) : List AV := AV.elsOf (AV.cell (List.getD els j .undef) q)
def okE (ag : Bool) (ks : List K) (els : List AV) (j : Nat) : Bool := shapeOk ag ks (List.getD els j .undef)
def w64 (x : Int) : Int := IntKind.i64.wrap x
theorem fnLf {P : Program} {C : Cfg} {E : Env P C} {k : Nat} {f : FuncId} {fn : Func} {c : Code} {args : List AV} {α : Type} {a r : α} {o : α → Out} (h : some a = some r) (hf : FnIs P C f fn c) (hx : C.ext f = none) (p : List D) (cs : CL)
    (hk : chk (oF E k f fn c args p) = some (cs.1, snds (oF E k f fn c args p), o a)) : evF P C (k + 1) f args = some (o r) := by
  injection h with h; subst h; exact chk_ok (oF_ok hf hx) cs hk
theorem lpLf {P : Program} {C : Cfg} {E : Env P C} {k : Nat} {f : FuncId} {c : Code} {p : List D} {m : Nat} {s : St} {ex : Ex} {g : St → St} {α : Type} {a r : α} {Q : α → Option (Ex × St) → Prop} (h : some a = some r) (cs : CL) (hex : exN ex = false)
    (k' : ∀ s', Q a (some (ex, g s')))
    (hk : chk (oB E k f c s p) = some (cs.1, snds (oB E k f c s p), (ex, g (stOf (oB E k f c s p))))) : Q r (loopN (bEv P C k f c) (m + 1) s) := by
  injection h with h; subst h; exact lpEnd cs hex k' hk
theorem dLf {P : Program} {C : Cfg} {E : Env P C} {k : Nat} {f : FuncId} {fn : Func} {c : Code} {args : List AV} {s : St} {out : St → Out} {g : St → St} {α : Type} {a r : α} {Q : α → Option (Out × St) → Prop} (h : some a = some r) (hf : FnIs P C f fn c) (hx : C.extD f = none) (p : List D) (cs : CL)
    (k' : ∀ s', Q a (some (out s', g s')))
    (hk : chk (oD E k f fn c args s p) = some (cs.1, snds (oD E k f fn c args s p), (out (stOfD (oD E k f fn c args s p)), g (stOfD (oD E k f fn c args s p))))) : Q r (evD P C (k + 1) f args s) := by
  injection h with h; subst h
  rw [chk_ok (oD_ok hf hx) cs hk]
  exact k' _
/-- Functions with a meaning of their own want fuel. -/
def fuelO : Nat → Option Unit
  | 0 => none
  | _ + 1 => some ()
theorem fuel_ok {P : Program} {C : Cfg} {k : Nat} {r : Unit} (h : fuelO k = some r) {f : FuncId} (hok : callOk P f = true) : ∀ args s h', C.extD f = some h' → evD P C k f args s = (h' args s).map fun r => (Out.ret r.1, r.2) := fun args s h' hx => by
  cases k with
  | zero => cases h
  | succ k =>
    unfold evD stepD
    rw [hok, cnd_true, hx]
def fuelN (u n : Nat) : Option Nat := bif Nat.ble u n then some (n - u) else none
theorem fuelN_eq {u n k : Nat} (h : fuelN u n = some k) : n = k + u := by
  unfold fuelN at h
  obtain ⟨h1, h⟩ := bif_some h
  injection h with h
  have := Nat.le_of_ble_eq_true h1
  omega
/-- Trees of decisions. -/
def asrt {α : Type} (c : Bool) (x : Option α) : Option α := bif c then x else none
theorem T.br {α : Type} {c : Bool} {A B : Option α} {r : α} {q : Prop} (h : (bif c then A else B) = some r) (f : c = true → A = some r → q) (g : c = false → B = some r → q) : q := by
  cases hc : c with
  | true => rw [hc] at h; exact f hc h
  | false => rw [hc] at h; exact g hc h
theorem T.as {α : Type} {c : Bool} {A : Option α} {r : α} {q : Prop} (h : asrt c A = some r) (f : c = true → A = some r → q) : q := by
  unfold asrt at h
  exact T.br h f fun _ h => by cases h
theorem T.bd {α β : Type} {x : Option α} {f : α → Option β} {r : β} {q : Prop} (h : x.bind f = some r) (g : ∀ a, x = some a → f a = some r → q) : q := by
  rw [Option.bind_eq_some_iff] at h
  obtain ⟨a, h1, h2⟩ := h
  exact g a h1 h2
theorem T.no {α : Type} {r : α} {q : Prop} (h : (none : Option α) = some r) : q := by cases h
theorem T.nt {x v : Bool} (h : x = v) : (!x) = !v := by rw [h]
theorem T.full (n : Nat) : decide (0 ≤ (0 : Int) ∧ (0 : Int) ≤ ((n : Nat) : Int) ∧ ((n : Nat) : Int) ≤ ((n : Nat) : Int)) = true := decide_eq_true (by omega)
theorem T.b2 {α β γ : Type} {x : Option (α ⊕ β)} {A : α → Option γ} {B : β → Option γ} {r : γ} {q : Prop} (h : x.bind (Sum.elim A B) = some r) (f : ∀ a, x = some (.inl a) → A a = some r → q) (g : ∀ b, x = some (.inr b) → B b = some r → q) : q := by
  rw [Option.bind_eq_some_iff] at h
  obtain ⟨a, h1, h2⟩ := h
  cases a with
  | inl a => exact f a h1 h2
  | inr b => exact g b h1 h2
theorem T.b3 {α β δ γ : Type} {x : Option (α ⊕ β ⊕ δ)} {A : α → Option γ} {B : β → Option γ} {D : δ → Option γ} {r : γ} {q : Prop} (h : x.bind (Sum.elim A (Sum.elim B D)) = some r) (f : ∀ a, x = some (.inl a) → A a = some r → q) (g : ∀ b, x = some (.inr (.inl b)) → B b = some r → q) (j : ∀ b, x = some (.inr (.inr b)) → D b = some r → q) : q := by
  rw [Option.bind_eq_some_iff] at h
  obtain ⟨a, h1, h2⟩ := h
  cases a with
  | inl a => exact f a h1 h2
  | inr b =>
    cases b with
    | inl b => exact g b h1 h2
    | inr b => exact j b h1 h2
theorem T.b4 {α0 α1 α2 α3 γ : Type} {x : Option (α0 ⊕ α1 ⊕ α2 ⊕ α3)} {A0 : α0 → Option γ} {A1 : α1 → Option γ} {A2 : α2 → Option γ} {A3 : α3 → Option γ} {r : γ} {q : Prop} (h : x.bind (Sum.elim A0 (Sum.elim A1 (Sum.elim A2 A3))) = some r) (f0 : ∀ a, x = some (.inl a) → A0 a = some r → q) (f1 : ∀ a, x = some (.inr (.inl a)) → A1 a = some r → q) (f2 : ∀ a, x = some (.inr (.inr (.inl a))) → A2 a = some r → q) (f3 : ∀ a, x = some (.inr (.inr (.inr a))) → A3 a = some r → q) : q := by
  rw [Option.bind_eq_some_iff] at h
  obtain ⟨a, h1, h2⟩ := h
  rcases a with a | (a | (a | a))
  · exact f0 a h1 h2
  · exact f1 a h1 h2
  · exact f2 a h1 h2
  · exact f3 a h1 h2
theorem T.b5 {α0 α1 α2 α3 α4 γ : Type} {x : Option (α0 ⊕ α1 ⊕ α2 ⊕ α3 ⊕ α4)} {A0 : α0 → Option γ} {A1 : α1 → Option γ} {A2 : α2 → Option γ} {A3 : α3 → Option γ} {A4 : α4 → Option γ} {r : γ} {q : Prop} (h : x.bind (Sum.elim A0 (Sum.elim A1 (Sum.elim A2 (Sum.elim A3 A4)))) = some r) (f0 : ∀ a, x = some (.inl a) → A0 a = some r → q) (f1 : ∀ a, x = some (.inr (.inl a)) → A1 a = some r → q) (f2 : ∀ a, x = some (.inr (.inr (.inl a))) → A2 a = some r → q) (f3 : ∀ a, x = some (.inr (.inr (.inr (.inl a)))) → A3 a = some r → q) (f4 : ∀ a, x = some (.inr (.inr (.inr (.inr a)))) → A4 a = some r → q) : q := by
  rw [Option.bind_eq_some_iff] at h
  obtain ⟨a, h1, h2⟩ := h
  rcases a with a | (a | (a | (a | a)))
  · exact f0 a h1 h2
  · exact f1 a h1 h2
  · exact f2 a h1 h2
  · exact f3 a h1 h2
  · exact f4 a h1 h2
theorem T.b6 {α0 α1 α2 α3 α4 α5 γ : Type} {x : Option (α0 ⊕ α1 ⊕ α2 ⊕ α3 ⊕ α4 ⊕ α5)} {A0 : α0 → Option γ} {A1 : α1 → Option γ} {A2 : α2 → Option γ} {A3 : α3 → Option γ} {A4 : α4 → Option γ} {A5 : α5 → Option γ} {r : γ} {q : Prop} (h : x.bind (Sum.elim A0 (Sum.elim A1 (Sum.elim A2 (Sum.elim A3 (Sum.elim A4 A5))))) = some r) (f0 : ∀ a, x = some (.inl a) → A0 a = some r → q) (f1 : ∀ a, x = some (.inr (.inl a)) → A1 a = some r → q) (f2 : ∀ a, x = some (.inr (.inr (.inl a))) → A2 a = some r → q) (f3 : ∀ a, x = some (.inr (.inr (.inr (.inl a)))) → A3 a = some r → q) (f4 : ∀ a, x = some (.inr (.inr (.inr (.inr (.inl a))))) → A4 a = some r → q) (f5 : ∀ a, x = some (.inr (.inr (.inr (.inr (.inr a))))) → A5 a = some r → q) : q := by
  rw [Option.bind_eq_some_iff] at h
  obtain ⟨a, h1, h2⟩ := h
  rcases a with a | (a | (a | (a | (a | a))))
  · exact f0 a h1 h2
  · exact f1 a h1 h2
  · exact f2 a h1 h2
  · exact f3 a h1 h2
  · exact f4 a h1 h2
  · exact f5 a h1 h2
theorem T.b7 {α0 α1 α2 α3 α4 α5 α6 γ : Type} {x : Option (α0 ⊕ α1 ⊕ α2 ⊕ α3 ⊕ α4 ⊕ α5 ⊕ α6)} {A0 : α0 → Option γ} {A1 : α1 → Option γ} {A2 : α2 → Option γ} {A3 : α3 → Option γ} {A4 : α4 → Option γ} {A5 : α5 → Option γ} {A6 : α6 → Option γ} {r : γ} {q : Prop} (h : x.bind (Sum.elim A0 (Sum.elim A1 (Sum.elim A2 (Sum.elim A3 (Sum.elim A4 (Sum.elim A5 A6)))))) = some r) (f0 : ∀ a, x = some (.inl a) → A0 a = some r → q) (f1 : ∀ a, x = some (.inr (.inl a)) → A1 a = some r → q) (f2 : ∀ a, x = some (.inr (.inr (.inl a))) → A2 a = some r → q) (f3 : ∀ a, x = some (.inr (.inr (.inr (.inl a)))) → A3 a = some r → q) (f4 : ∀ a, x = some (.inr (.inr (.inr (.inr (.inl a))))) → A4 a = some r → q) (f5 : ∀ a, x = some (.inr (.inr (.inr (.inr (.inr (.inl a)))))) → A5 a = some r → q) (f6 : ∀ a, x = some (.inr (.inr (.inr (.inr (.inr (.inr a)))))) → A6 a = some r → q) : q := by
  rw [Option.bind_eq_some_iff] at h
  obtain ⟨a, h1, h2⟩ := h
  rcases a with a | (a | (a | (a | (a | (a | a)))))
  · exact f0 a h1 h2
  · exact f1 a h1 h2
  · exact f2 a h1 h2
  · exact f3 a h1 h2
  · exact f4 a h1 h2
  · exact f5 a h1 h2
  · exact f6 a h1 h2
theorem T.b8 {α0 α1 α2 α3 α4 α5 α6 α7 γ : Type} {x : Option (α0 ⊕ α1 ⊕ α2 ⊕ α3 ⊕ α4 ⊕ α5 ⊕ α6 ⊕ α7)} {A0 : α0 → Option γ} {A1 : α1 → Option γ} {A2 : α2 → Option γ} {A3 : α3 → Option γ} {A4 : α4 → Option γ} {A5 : α5 → Option γ} {A6 : α6 → Option γ} {A7 : α7 → Option γ} {r : γ} {q : Prop} (h : x.bind (Sum.elim A0 (Sum.elim A1 (Sum.elim A2 (Sum.elim A3 (Sum.elim A4 (Sum.elim A5 (Sum.elim A6 A7))))))) = some r) (f0 : ∀ a, x = some (.inl a) → A0 a = some r → q) (f1 : ∀ a, x = some (.inr (.inl a)) → A1 a = some r → q) (f2 : ∀ a, x = some (.inr (.inr (.inl a))) → A2 a = some r → q) (f3 : ∀ a, x = some (.inr (.inr (.inr (.inl a)))) → A3 a = some r → q) (f4 : ∀ a, x = some (.inr (.inr (.inr (.inr (.inl a))))) → A4 a = some r → q) (f5 : ∀ a, x = some (.inr (.inr (.inr (.inr (.inr (.inl a)))))) → A5 a = some r → q) (f6 : ∀ a, x = some (.inr (.inr (.inr (.inr (.inr (.inr (.inl a))))))) → A6 a = some r → q) (f7 : ∀ a, x = some (.inr (.inr (.inr (.inr (.inr (.inr (.inr a))))))) → A7 a = some r → q) : q := by
  rw [Option.bind_eq_some_iff] at h
  obtain ⟨a, h1, h2⟩ := h
  rcases a with a | (a | (a | (a | (a | (a | (a | a))))))
  · exact f0 a h1 h2
  · exact f1 a h1 h2
  · exact f2 a h1 h2
  · exact f3 a h1 h2
  · exact f4 a h1 h2
  · exact f5 a h1 h2
  · exact f6 a h1 h2
  · exact f7 a h1 h2
theorem T.b9 {α0 α1 α2 α3 α4 α5 α6 α7 α8 γ : Type} {x : Option (α0 ⊕ α1 ⊕ α2 ⊕ α3 ⊕ α4 ⊕ α5 ⊕ α6 ⊕ α7 ⊕ α8)} {A0 : α0 → Option γ} {A1 : α1 → Option γ} {A2 : α2 → Option γ} {A3 : α3 → Option γ} {A4 : α4 → Option γ} {A5 : α5 → Option γ} {A6 : α6 → Option γ} {A7 : α7 → Option γ} {A8 : α8 → Option γ} {r : γ} {q : Prop} (h : x.bind (Sum.elim A0 (Sum.elim A1 (Sum.elim A2 (Sum.elim A3 (Sum.elim A4 (Sum.elim A5 (Sum.elim A6 (Sum.elim A7 A8)))))))) = some r) (f0 : ∀ a, x = some (.inl a) → A0 a = some r → q) (f1 : ∀ a, x = some (.inr (.inl a)) → A1 a = some r → q) (f2 : ∀ a, x = some (.inr (.inr (.inl a))) → A2 a = some r → q) (f3 : ∀ a, x = some (.inr (.inr (.inr (.inl a)))) → A3 a = some r → q) (f4 : ∀ a, x = some (.inr (.inr (.inr (.inr (.inl a))))) → A4 a = some r → q) (f5 : ∀ a, x = some (.inr (.inr (.inr (.inr (.inr (.inl a)))))) → A5 a = some r → q) (f6 : ∀ a, x = some (.inr (.inr (.inr (.inr (.inr (.inr (.inl a))))))) → A6 a = some r → q) (f7 : ∀ a, x = some (.inr (.inr (.inr (.inr (.inr (.inr (.inr (.inl a)))))))) → A7 a = some r → q) (f8 : ∀ a, x = some (.inr (.inr (.inr (.inr (.inr (.inr (.inr (.inr a)))))))) → A8 a = some r → q) : q := by
  rw [Option.bind_eq_some_iff] at h
  obtain ⟨a, h1, h2⟩ := h
  rcases a with a | (a | (a | (a | (a | (a | (a | (a | a)))))))
  · exact f0 a h1 h2
  · exact f1 a h1 h2
  · exact f2 a h1 h2
  · exact f3 a h1 h2
  · exact f4 a h1 h2
  · exact f5 a h1 h2
  · exact f6 a h1 h2
  · exact f7 a h1 h2
  · exact f8 a h1 h2
theorem T.b10 {α0 α1 α2 α3 α4 α5 α6 α7 α8 α9 γ : Type} {x : Option (α0 ⊕ α1 ⊕ α2 ⊕ α3 ⊕ α4 ⊕ α5 ⊕ α6 ⊕ α7 ⊕ α8 ⊕ α9)} {A0 : α0 → Option γ} {A1 : α1 → Option γ} {A2 : α2 → Option γ} {A3 : α3 → Option γ} {A4 : α4 → Option γ} {A5 : α5 → Option γ} {A6 : α6 → Option γ} {A7 : α7 → Option γ} {A8 : α8 → Option γ} {A9 : α9 → Option γ} {r : γ} {q : Prop} (h : x.bind (Sum.elim A0 (Sum.elim A1 (Sum.elim A2 (Sum.elim A3 (Sum.elim A4 (Sum.elim A5 (Sum.elim A6 (Sum.elim A7 (Sum.elim A8 A9))))))))) = some r) (f0 : ∀ a, x = some (.inl a) → A0 a = some r → q) (f1 : ∀ a, x = some (.inr (.inl a)) → A1 a = some r → q) (f2 : ∀ a, x = some (.inr (.inr (.inl a))) → A2 a = some r → q) (f3 : ∀ a, x = some (.inr (.inr (.inr (.inl a)))) → A3 a = some r → q) (f4 : ∀ a, x = some (.inr (.inr (.inr (.inr (.inl a))))) → A4 a = some r → q) (f5 : ∀ a, x = some (.inr (.inr (.inr (.inr (.inr (.inl a)))))) → A5 a = some r → q) (f6 : ∀ a, x = some (.inr (.inr (.inr (.inr (.inr (.inr (.inl a))))))) → A6 a = some r → q) (f7 : ∀ a, x = some (.inr (.inr (.inr (.inr (.inr (.inr (.inr (.inl a)))))))) → A7 a = some r → q) (f8 : ∀ a, x = some (.inr (.inr (.inr (.inr (.inr (.inr (.inr (.inr (.inl a))))))))) → A8 a = some r → q) (f9 : ∀ a, x = some (.inr (.inr (.inr (.inr (.inr (.inr (.inr (.inr (.inr a))))))))) → A9 a = some r → q) : q := by
  rw [Option.bind_eq_some_iff] at h
  obtain ⟨a, h1, h2⟩ := h
  rcases a with a | (a | (a | (a | (a | (a | (a | (a | (a | a))))))))
  · exact f0 a h1 h2
  · exact f1 a h1 h2
  · exact f2 a h1 h2
  · exact f3 a h1 h2
  · exact f4 a h1 h2
  · exact f5 a h1 h2
  · exact f6 a h1 h2
  · exact f7 a h1 h2
  · exact f8 a h1 h2
  · exact f9 a h1 h2
theorem T.b11 {α0 α1 α2 α3 α4 α5 α6 α7 α8 α9 α10 γ : Type} {x : Option (α0 ⊕ α1 ⊕ α2 ⊕ α3 ⊕ α4 ⊕ α5 ⊕ α6 ⊕ α7 ⊕ α8 ⊕ α9 ⊕ α10)} {A0 : α0 → Option γ} {A1 : α1 → Option γ} {A2 : α2 → Option γ} {A3 : α3 → Option γ} {A4 : α4 → Option γ} {A5 : α5 → Option γ} {A6 : α6 → Option γ} {A7 : α7 → Option γ} {A8 : α8 → Option γ} {A9 : α9 → Option γ} {A10 : α10 → Option γ} {r : γ} {q : Prop} (h : x.bind (Sum.elim A0 (Sum.elim A1 (Sum.elim A2 (Sum.elim A3 (Sum.elim A4 (Sum.elim A5 (Sum.elim A6 (Sum.elim A7 (Sum.elim A8 (Sum.elim A9 A10)))))))))) = some r) (f0 : ∀ a, x = some (.inl a) → A0 a = some r → q) (f1 : ∀ a, x = some (.inr (.inl a)) → A1 a = some r → q) (f2 : ∀ a, x = some (.inr (.inr (.inl a))) → A2 a = some r → q) (f3 : ∀ a, x = some (.inr (.inr (.inr (.inl a)))) → A3 a = some r → q) (f4 : ∀ a, x = some (.inr (.inr (.inr (.inr (.inl a))))) → A4 a = some r → q) (f5 : ∀ a, x = some (.inr (.inr (.inr (.inr (.inr (.inl a)))))) → A5 a = some r → q) (f6 : ∀ a, x = some (.inr (.inr (.inr (.inr (.inr (.inr (.inl a))))))) → A6 a = some r → q) (f7 : ∀ a, x = some (.inr (.inr (.inr (.inr (.inr (.inr (.inr (.inl a)))))))) → A7 a = some r → q) (f8 : ∀ a, x = some (.inr (.inr (.inr (.inr (.inr (.inr (.inr (.inr (.inl a))))))))) → A8 a = some r → q) (f9 : ∀ a, x = some (.inr (.inr (.inr (.inr (.inr (.inr (.inr (.inr (.inr (.inl a)))))))))) → A9 a = some r → q) (f10 : ∀ a, x = some (.inr (.inr (.inr (.inr (.inr (.inr (.inr (.inr (.inr (.inr a)))))))))) → A10 a = some r → q) : q := by
  rw [Option.bind_eq_some_iff] at h
  obtain ⟨a, h1, h2⟩ := h
  rcases a with a | (a | (a | (a | (a | (a | (a | (a | (a | (a | a)))))))))
  · exact f0 a h1 h2
  · exact f1 a h1 h2
  · exact f2 a h1 h2
  · exact f3 a h1 h2
  · exact f4 a h1 h2
  · exact f5 a h1 h2
  · exact f6 a h1 h2
  · exact f7 a h1 h2
  · exact f8 a h1 h2
  · exact f9 a h1 h2
  · exact f10 a h1 h2
theorem T.b12 {α0 α1 α2 α3 α4 α5 α6 α7 α8 α9 α10 α11 γ : Type} {x : Option (α0 ⊕ α1 ⊕ α2 ⊕ α3 ⊕ α4 ⊕ α5 ⊕ α6 ⊕ α7 ⊕ α8 ⊕ α9 ⊕ α10 ⊕ α11)} {A0 : α0 → Option γ} {A1 : α1 → Option γ} {A2 : α2 → Option γ} {A3 : α3 → Option γ} {A4 : α4 → Option γ} {A5 : α5 → Option γ} {A6 : α6 → Option γ} {A7 : α7 → Option γ} {A8 : α8 → Option γ} {A9 : α9 → Option γ} {A10 : α10 → Option γ} {A11 : α11 → Option γ} {r : γ} {q : Prop} (h : x.bind (Sum.elim A0 (Sum.elim A1 (Sum.elim A2 (Sum.elim A3 (Sum.elim A4 (Sum.elim A5 (Sum.elim A6 (Sum.elim A7 (Sum.elim A8 (Sum.elim A9 (Sum.elim A10 A11))))))))))) = some r) (f0 : ∀ a, x = some (.inl a) → A0 a = some r → q) (f1 : ∀ a, x = some (.inr (.inl a)) → A1 a = some r → q) (f2 : ∀ a, x = some (.inr (.inr (.inl a))) → A2 a = some r → q) (f3 : ∀ a, x = some (.inr (.inr (.inr (.inl a)))) → A3 a = some r → q) (f4 : ∀ a, x = some (.inr (.inr (.inr (.inr (.inl a))))) → A4 a = some r → q) (f5 : ∀ a, x = some (.inr (.inr (.inr (.inr (.inr (.inl a)))))) → A5 a = some r → q) (f6 : ∀ a, x = some (.inr (.inr (.inr (.inr (.inr (.inr (.inl a))))))) → A6 a = some r → q) (f7 : ∀ a, x = some (.inr (.inr (.inr (.inr (.inr (.inr (.inr (.inl a)))))))) → A7 a = some r → q) (f8 : ∀ a, x = some (.inr (.inr (.inr (.inr (.inr (.inr (.inr (.inr (.inl a))))))))) → A8 a = some r → q) (f9 : ∀ a, x = some (.inr (.inr (.inr (.inr (.inr (.inr (.inr (.inr (.inr (.inl a)))))))))) → A9 a = some r → q) (f10 : ∀ a, x = some (.inr (.inr (.inr (.inr (.inr (.inr (.inr (.inr (.inr (.inr (.inl a))))))))))) → A10 a = some r → q) (f11 : ∀ a, x = some (.inr (.inr (.inr (.inr (.inr (.inr (.inr (.inr (.inr (.inr (.inr a))))))))))) → A11 a = some r → q) : q := by
  rw [Option.bind_eq_some_iff] at h
  obtain ⟨a, h1, h2⟩ := h
  rcases a with a | (a | (a | (a | (a | (a | (a | (a | (a | (a | (a | a))))))))))
  · exact f0 a h1 h2
  · exact f1 a h1 h2
  · exact f2 a h1 h2
  · exact f3 a h1 h2
  · exact f4 a h1 h2
  · exact f5 a h1 h2
  · exact f6 a h1 h2
  · exact f7 a h1 h2
  · exact f8 a h1 h2
  · exact f9 a h1 h2
  · exact f10 a h1 h2
  · exact f11 a h1 h2
theorem T.sub {α β : Type} {f : α → Option β} {r t : α} {z : β} {q : Prop} (e : r = t) (h : f r = some z) (k : f t = some z → q) : q := k (e ▸ h)
theorem T.an {a b : Bool} (ha : a = true) (hb : b = true) : (a && b) = true := by rw [ha, hb]; rfl
theorem T.lf {α : Type} {a r : α} {q : α → Prop} (h : some a = some r) (g : q a) : q r := by
  injection h with h; subst h; exact g
end Go.Ev
