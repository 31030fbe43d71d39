/-
  The evaluator is sound: what it yields for a call, the call returns; no condition but what the evaluator leans on.
-/
import Derived.Test.YtjfpcgkgdajcfaaGreatDoorEvE
namespace Go.Ev
open Go Go.RowKit

section
variable {W0 : World} {P : Program} {C : Cfg}
/-- Functions with a meaning of their own. -/
def ExtOk (P : Program) (W0 : World) (C : Cfg) : Prop := ∀ f h args x, C.ext f = some h → h args = some x → callOk P f = true → ∀ (g : G) (w : World) (vals : Array Value), Old W0 w w.heap.size → Held g w → Reps g args vals.toList → AV.cleanL args = true →
  Calls P f vals w fun e w' => ∃ g' : G, (∀ b o v, g.fz b o = some v → g'.fz b o = some v) ∧ Held g' w' ∧ Below w.heap.size w w' ∧ (∀ b o, b < w.heap.size → g'.fz b o = g.fz b o) ∧ EndR g' (.ret x) e ∧ x.clean = true
def ExtDOk (P : Program) (W0 : World) (C : Cfg) : Prop := ∀ f h args s x s', C.extD f = some h → h args s = some (x, s') → callOk P f = true → ∀ (g : G) (w : World) (B : Nat) (vals : Array Value), Old W0 w B → Mem g s w B → Reps g args vals.toList →
  Calls P f vals w fun e w' => ∃ g', Nxt g w B g' w' ∧ Mem g' s' w' B ∧ EndR g' (.ret x) e
/-- Deferred functions that catch. -/
def CatchOk (P : Program) (C : Cfg) : Prop := ∀ f t, C.caught f = some t → callOk P f = true ∧ ∀ (g : G) (s : St) (w : World) (B : Nat) (k n i o : Nat) (z : Value), Mem g s w B → Rep g (.pt k n i o) z →
  (CallsD P f #[z] .returning w fun e u' w' => (∃ v, e = .returned v) ∧ settle u' = .returning ∧ ∃ g', Nxt g w B g' w' ∧ Mem g' s w' B) ∧
  ∀ (b : Blk) (el x : AV) (v : Value), s.blk k n = some b → b.els[i]? = some el → (Nat.ble (o + x.cells.length) el.cells.length && !b.fz) = true → Rep g x v →
    CallsD P f #[z] (.panicking [{ v := .iface t v, recovered := false }]) w fun e u' w' => (∃ v, e = .returned v) ∧ settle u' = .returning ∧ ∃ g', Nxt g w B g' w' ∧ Mem g' (s.setEls k n (b.els.set i (upd o x el))) w' B
variable {w : World} {g : G} {s : St} {a : Act} {B : Nat}
/-- A result, as the machine reads it. -/
def resV (a : Act) : ResultVar → Sem Value
  | .tmp t => pure (a.tmps.getD t Go.undef)
  | .cell p t => do loadVar t (← asAddr (a.tmps.getD p Go.undef))
theorem result1_run {r : ResultVar} {x : AV} (hm : Mem g s w B) (ht : Tms g s a) (h : result1 P s r = some x) :
    Yld P g w (resV a r) x := by
  unfold result1 at h
  unfold resV
  cases r with
  | tmp t =>
    simp only at h ⊢
    injection h with h
    subst h
    exact Yld.of (ht.at (.tmp t))
  | cell p t =>
    simp only at h ⊢
    have hp := ht.at (.tmp p)
    change Rep g (s.tm.getD p .undef) (a.tmps.getD p Go.undef) at hp
    split at h
    · rename_i k tt i oo hl
      rw [hl] at hp
      simp only [Option.bind_eq_some_iff] at h
      obtain ⟨bk, hbk, e, he, ⟨ag, n⟩, hty, hx⟩ := h
      obtain ⟨h1, _, h3⟩ := blk_parts hbk
      obtain ⟨b, lim, ho⟩ := hm.blks bk h1
      obtain ⟨v, hv1, hv2⟩ := y_load_pt (P := P) ho h3 hp he hty hx
      generalize a.tmps.getD p Go.undef = z at hp hv1
      cases hp
      refine ⟨v, ?_, hv2⟩
      rw [run_bind]
      simp only [asAddr, run_pure]
      rw [run_loadAt] at hv1
      exact hv1
    · cases h
theorem mapM_reps {f : ResultVar → Option AV} {m : ResultVar → Sem Value} (hf : ∀ r x, f r = some x → Yld P g w (m r) x) : ∀ (l : List ResultVar) (xs : List AV), l.mapM f = some xs → ∃ vs, (l.mapM m).run P w = .ok vs w ∧ Reps g xs vs := by
  intro l
  induction l with
  | nil => intro xs h; simp at h; subst h; exact ⟨[], rfl, .nil g⟩
  | cons r l ih =>
    intro xs h
    simp only [List.mapM_cons, Option.pure_def, Option.bind_eq_bind, Option.bind_eq_some_iff] at h
    obtain ⟨x, hx, xs', hxs, e⟩ := h
    injection e with e
    subst e
    obtain ⟨v, h1, h2⟩ := hf r x hx
    obtain ⟨vs, h3, h4⟩ := ih xs' hxs
    exact ⟨v :: vs, by rw [List.mapM_cons, run_bind, h1]; simp only; rw [run_bind, h3]; rfl, .cons h2 h4⟩
theorem results_run {fn : Func} {x : AV} (hm : Mem g s w B) (ht : Tms g s a) (h : Ev.results P fn s = some x) : Yld P g w (Go.results fn a.tmps) x := by
  unfold Ev.results at h
  rw [Option.map_eq_some_iff] at h
  obtain ⟨xs, hxs, rfl⟩ := h
  obtain ⟨vs, h1, h2⟩ := mapM_reps (P := P) (m := resV a) (fun r x hx => result1_run hm ht hx) _ _ hxs
  have hrun : (fn.results.mapM (resV a)).run P w = .ok vs.toArray w := by
    rw [Array.mapM_eq_mapM_toList]
    rw [← bind_pure_comp, run_bind, h1]
    rfl
  refine ⟨if h : vs.toArray.size = 1 then vs.toArray[0] else .tuple vs.toArray, ?_, ?_⟩
  · show ((fn.results.mapM (resV a)) >>= fun vs => pure (if h : vs.size = 1 then vs[0] else .tuple vs)).run P w = _
    rw [run_bind, hrun]
    rfl
  · unfold pack
    split
    · rename_i y
      obtain ⟨v, r, rfl, hv, hr⟩ := h2.inv
      obtain rfl := hr.inv0
      simpa using hv
    · rename_i hne
      have : ¬ vs.toArray.size = 1 := by
        intro e
        have hl : xs.length = 1 := by rw [← h2.1]; simpa using e
        match xs, hl with
        | [y], _ => exact hne y rfl
      rw [dif_neg this]
      exact Reps.tup (by simpa using h2)
theorem leave_frm : ∀ (l : List (FuncId × List AV)) (p q : Option AV) (s s' : St), leave C l p s = some (q, s') → Frm s s' := by
  intro l
  induction l with
  | nil => intro p q s s' h; simp only [leave, Option.some.injEq, Prod.mk.injEq] at h; obtain ⟨_, rfl⟩ := h; exact .refl s
  | cons d l ih =>
    intro p q s s' h
    obtain ⟨f, args⟩ := d
    unfold leave at h
    split at h
    · split at h
      · exact ih _ _ _ _ h
      · rw [Option.bind_eq_some_iff] at h
        obtain ⟨b, hb, h⟩ := h
        rw [Option.bind_eq_some_iff] at h
        obtain ⟨e, he, h⟩ := h
        obtain ⟨_, h⟩ := bif_some h
        have := ih _ _ _ _ h
        exact ⟨this.tm, this.kb, this.df⟩
      · cases h
    · cases h
theorem leave_none : ∀ (l : List (FuncId × List AV)) (q : Option AV) (s s' : St), leave C l none s = some (q, s') → q = none := by
  intro l
  induction l with
  | nil => intro q s s' h; simp only [leave, Option.some.injEq, Prod.mk.injEq] at h; exact h.1.symm
  | cons d l ih =>
    intro q s s' h
    obtain ⟨f, args⟩ := d
    unfold leave at h
    split at h
    · exact ih _ _ _ h
    · cases h
/-- How a panic lies. -/
def PanR (g : G) : Option AV → FrameMode → Prop
  | none, .returning => True
  | some x, .panicking ch => ∃ v, ch = [{ v, recovered := false }] ∧ Rep g x v
  | _, _ => False
theorem leave_sound (hC : CatchOk P C) {fn : Func} {tmps : Array Value} {R : Ending → World → Prop} : ∀ (l : List (FuncId × List AV)) (ds : List Deferred) (p q : Option AV) (u : FrameMode) (g : G) (s s' : St) (w : World), leave C l p s = some (q, s') → DfR g l ds → Mem g s w B → PanR g p u →
    (∀ g' w' u', Nxt g w B g' w' → Mem g' s' w' B → PanR g' q u' → (match u' with | .returning => ∃ v, (Go.results fn tmps).run P w' = .ok v w' ∧ R (.returned v) w' | .panicking ch => R (.panicked ch) w' | _ => False)) →
    Leaves P fn tmps R ds u w := by
  intro l
  induction l with
  | nil =>
    intro ds p q u g s s' w h hd hm hp hR
    have : ds = [] := by have := hd.1; cases ds <;> simp_all
    subst this
    simp only [leave, Option.some.injEq, Prod.mk.injEq] at h
    obtain ⟨rfl, rfl⟩ := h
    have := hR g w u (.refl g w B) hm hp
    cases u with
    | run => exact this
    | returning => exact this
    | panicking ch => exact this
  | cons d l ih =>
    intro ds p q u g s s' w h hd hm hp hR
    obtain ⟨f, args⟩ := d
    cases ds with
    | nil => have := hd.1; simp at this
    | cons dd ds =>
    obtain ⟨cap, htar, hargs⟩ := hd.2 0 _ _ rfl rfl
    have hd' : DfR g l ds := ⟨by have := hd.1; simpa using this, fun i p d h1 h2 => hd.2 (i + 1) p d (by simpa using h1) (by simpa using h2)⟩
    obtain ⟨tar, dargs⟩ := dd
    simp only at htar hargs
    subst htar
    unfold leave at h
    split at h
    · rename_i t k n i o hcat
      obtain ⟨hcall, hcs⟩ := hC f t hcat
      obtain ⟨z, r, hz, hzr, hr⟩ := hargs.inv
      obtain rfl := hr.inv0
      have hinv : (invoke (.fn (.func f) cap) dargs).run P w = .ok (.enter f #[z]) w := by
        unfold invoke
        rw [run_callFunc hcall]
        congr 2
        apply Array.ext'
        simpa using hz
      obtain ⟨c1, c2⟩ := hcs g s w B k n i o z hm hzr
      split at h
      · -- no panic
        cases u with
        | run => exact hp.elim
        | panicking ch => exact hp.elim
        | returning =>
          refine leaves_cons (by simp) hinv (c1.mono fun e u' w' he => ?_)
          obtain ⟨⟨v, rfl⟩, hset, g', hn, hm'⟩ := he
          simp only
          rw [hset]
          exact ih ds none q .returning g' s s' w' h (hd'.mono hn.le) hm' trivial (fun g2 w2 u2 hn2 hm2 hp2 => hR g2 w2 u2 (hn.trans hn2) hm2 hp2)
      · rename_i t' x
        rw [Option.bind_eq_some_iff] at h
        obtain ⟨bk, hb, h⟩ := h
        rw [Option.bind_eq_some_iff] at h
        obtain ⟨el, he, h⟩ := h
        obtain ⟨hc, h5⟩ := bif_some h
        rw [Bool.and_eq_true, Bool.and_eq_true] at hc
        obtain ⟨⟨ht, hle⟩, hfz⟩ := hc
        have ht : t = t' := by simpa using ht
        subst ht
        cases u with
        | run => exact hp.elim
        | returning => exact hp.elim
        | panicking ch =>
          obtain ⟨v, rfl, hv⟩ := hp
          cases hv with
          | ifc _ _ v hv =>
          refine leaves_cons (by simp) hinv ((c2 bk el x v hb he (by rw [Bool.and_eq_true]; exact ⟨hle, hfz⟩) hv).mono fun e u' w' he => ?_)
          obtain ⟨⟨v, rfl⟩, hset, g', hn, hm'⟩ := he
          simp only
          rw [hset]
          exact ih ds none q .returning g' _ s' w' h5 (hd'.mono hn.le) hm' trivial (fun g2 w2 u2 hn2 hm2 hp2 => hR g2 w2 u2 (hn.trans hn2) hm2 hp2)
      · cases h
    · cases h
theorem enter_reps {fn : Func} {args : List AV} {vals : Array Value} (h : Reps g args vals.toList) : Reps g (enter fn args) (vals ++ Array.replicate (fn.ntmps - vals.size) Go.undef).toList := by
  have hl : vals.size = args.length := by have := h.1; rw [Array.length_toList] at this; exact this
  unfold enter
  rw [Array.toList_append, Array.toList_replicate, hl]
  refine h.app ⟨by simp, fun i x y hx hy => ?_⟩
  have hx := (List.mem_replicate.1 (List.mem_of_getElem? hx)).2
  have hy := (List.mem_replicate.1 (List.mem_of_getElem? hy)).2
  rw [hx, hy]; exact Rep.undef g
/-- A call's body. -/
theorem body_sound (hC : CatchOk P C) {cF : FuncId → List AV → Option Out} {cD : FuncId → List AV → St → Option (Out × St)} (hF : SoundF P W0 cF) (hD : SoundD P W0 cD) (hmix : P.follows .mixedOrders = true) {n : Nat} {f : FuncId} {args : List AV} {out : Out} {s' : St} {vals : Array Value}
    (hold : Old W0 w B) (hm : Mem g s w B) (ha : Reps g args vals.toList) (h : body P C (fun b => loopN b n) cF cD f (frame P f args s) = some (out, s')) :
    Calls P f vals w fun e w' => ∃ g', Nxt g w B g' w' ∧ Mem g' s' w' B ∧ EndR g' out e := by
  unfold body at h
  rw [Option.bind_eq_some_iff] at h
  obtain ⟨fn, hfn, h⟩ := h
  rw [Option.bind_eq_some_iff] at h
  obtain ⟨c, hc, h⟩ := h
  rw [Option.bind_eq_some_iff] at h
  obtain ⟨⟨e1, s1⟩, h1, h2⟩ := h
  have hfr : frame P f args s = { s with tm := enter fn args, df := [] } := by unfold frame; rw [hfn]; rfl
  rw [hfr] at h1
  have hr : Rel W0 g { s with tm := enter fn args, df := [] } { tmps := vals ++ Array.replicate (fn.ntmps - vals.size) Go.undef, defers := [] } w B :=
    ⟨hm.tm rfl rfl rfl, enter_reps ha, ⟨rfl, fun i p d h => by simp at h⟩, hold⟩
  refine calls_of_wp_defers hfn hc (evC_wp hF hD hmix n c g _ _ w e1 s1 hr h1 _ (fun E a' w' hp => ?_))
  obtain ⟨g1, hn, hr1, hx⟩ := hp
  have hfin : ∀ (p q : Option AV) (s2 : St) (u : FrameMode), leave C s1.df p s1 = some (q, s2) → PanR g1 p u →
      (q = none → ∃ y, Ev.results P fn s2 = some y ∧ out = .ret y ∧ s' = s2) → (∀ y, q = some y → out = .pan y ∧ s' = s2) →
      Leaves P fn a'.tmps (fun e w' => ∃ g', Nxt g w B g' w' ∧ Mem g' s' w' B ∧ EndR g' out e) a'.defers u w' := by
    intro p q s2 u hl hpan hq1 hq2
    refine leave_sound hC _ _ _ _ _ _ _ _ _ hl hr1.df hr1.mem hpan (fun g2 w2 u2 hn2 hm2 hp2 => ?_)
    have hfrm := leave_frm _ _ _ _ _ hl
    cases q with
    | none =>
      cases u2 with
      | run => exact hp2
      | panicking ch => exact hp2.elim
      | returning =>
        obtain ⟨y, hy, rfl, rfl⟩ := hq1 rfl
        have ht2 : Tms g2 s' a' := by
          have := hr1.tms.mono hn2.le
          unfold Tms at this ⊢
          rw [hfrm.tm]; exact this
        obtain ⟨v, hv1, hv2⟩ := results_run hm2 ht2 hy
        exact ⟨v, hv1, g2, hn.trans hn2, hm2, hv2⟩
    | some y =>
      obtain ⟨rfl, rfl⟩ := hq2 y rfl
      cases u2 with
      | run => exact hp2
      | returning => exact hp2.elim
      | panicking ch =>
        obtain ⟨v, rfl, hv⟩ := hp2
        exact ⟨g2, hn.trans hn2, hm2, v, rfl, hv⟩
  cases e1 with
  | exit i => cases h2
  | normal =>
    cases E <;> first | (cases hx; done) | skip
    simp only [finish, Option.bind_eq_some_iff, Option.map_eq_some_iff] at h2
    obtain ⟨⟨q, s2⟩, hl, y, hy, h2⟩ := h2
    simp only [Prod.mk.injEq] at h2
    obtain ⟨rfl, rfl⟩ := h2
    have hq : q = none := leave_none _ _ _ _ hl
    subst hq
    exact hfin none none _ .returning hl trivial (fun _ => ⟨y, hy, rfl, rfl⟩) (fun y h => by cases h)
  | ret =>
    cases E <;> first | (cases hx; done) | skip
    simp only [finish, Option.bind_eq_some_iff, Option.map_eq_some_iff] at h2
    obtain ⟨⟨q, s2⟩, hl, y, hy, h2⟩ := h2
    simp only [Prod.mk.injEq] at h2
    obtain ⟨rfl, rfl⟩ := h2
    have hq : q = none := leave_none _ _ _ _ hl
    subst hq
    exact hfin none none _ .returning hl trivial (fun _ => ⟨y, hy, rfl, rfl⟩) (fun y h => by cases h)
  | pan x =>
    cases E <;> first | (cases hx; done) | skip
    rename_i ch
    simp only [finish, Option.bind_eq_some_iff] at h2
    obtain ⟨⟨q, s2⟩, hl, h2⟩ := h2
    cases q with
    | none =>
      simp only [Option.map_eq_some_iff] at h2
      obtain ⟨y, hy, h2⟩ := h2
      simp only [Prod.mk.injEq] at h2
      obtain ⟨rfl, rfl⟩ := h2
      exact hfin (some x) none _ (.panicking ch) hl hx (fun _ => ⟨y, hy, rfl, rfl⟩) (fun y h => by cases h)
    | some y =>
      simp only [Option.some.injEq, Prod.mk.injEq] at h2
      obtain ⟨rfl, rfl⟩ := h2
      exact hfin (some x) (some y) _ (.panicking ch) hl hx (fun h => by cases h) (fun y' h => by injection h with h; subst h; exact ⟨rfl, rfl⟩)
theorem snapEnd {out out2 : Out} {g1 : G} {w1 : World} {s1 : St} (hm : Mem g1 s1 w1 B) {e : Ending} (he : EndR g1 out e) (h : shut (out, s1) = some out2) : ∃ g2 s2, Mem g2 s2 w1 B ∧ (∀ b o v, g1.fz b o = some v → g2.fz b o = some v) ∧ (∀ b o, b < B → g2.fz b o = g1.fz b o) ∧ EndR g2 out2 e ∧ out2.val.clean = true := by
  cases out with
  | ret x =>
    simp only [shut, Option.bind_eq_some_iff] at h
    obtain ⟨⟨y, s2⟩, hs, h⟩ := h
    obtain ⟨hc, h⟩ := cnd_some h
    injection h with h; subst h
    cases e with
    | returned v =>
      obtain ⟨g2, ⟨a1, a2, a3, a4⟩, hv⟩ := snap_sound hm he hs
      exact ⟨g2, s2, a2, a1.fz, a4, hv, hc⟩
    | panicked ch => exact he.elim
    | outgrown => exact he.elim
  | pan x =>
    simp only [shut, Option.bind_eq_some_iff] at h
    obtain ⟨⟨y, s2⟩, hs, h⟩ := h
    obtain ⟨hc, h⟩ := cnd_some h
    injection h with h; subst h
    cases e with
    | returned v => exact he.elim
    | panicked ch =>
      obtain ⟨v, rfl, hv⟩ := he
      obtain ⟨g2, ⟨a1, a2, a3, a4⟩, hv⟩ := snap_sound hm hv hs
      exact ⟨g2, s2, a2, a1.fz, a4, ⟨v, rfl, hv⟩, hc⟩
    | outgrown => exact he.elim
/-- Results as their type shows them. -/
theorem K.nrm_rep {g : G} {k : K} {x : AV} {v : Value} (h : Rep g x v) : Rep g (k.nrm x) v := by
  unfold K.nrm
  split
  · cases h with
    | slNil => exact .slNil _ _ (fun _ _ q => by cases q)
    | sl n els tok a cap f hs hn h1 h2 hc ht => exact .sl _ [] .no a cap f hs (fun e he => by cases he) (fun i j hi => by simp at hi) (fun i j e c he => by simp at he) (by simp) trivial
  · cases h with
    | slNil => exact .slNil _ _ (fun _ _ q => by cases q)
    | sl n els tok a cap f hs hn h1 h2 hc ht => exact .sl _ _ .no a cap f hs hn h1 h2 hc trivial
  · exact h
theorem K.nrm_clean {k : K} {x : AV} (h : x.clean = true) : (k.nrm x).clean = true := by
  unfold K.nrm
  split
  · rfl
  · simpa [AV.clean] using h
  · exact h
theorem nrmL_rep {g : G} : ∀ (ks : List K) (cs : List AV) (vs : List Value), Reps g cs vs → Reps g (nrmL ks cs) vs := by
  intro ks
  induction ks with
  | nil => intro cs vs h; unfold nrmL; exact h
  | cons k ks ih =>
    intro cs vs h
    cases cs with
    | nil => exact h
    | cons x cs =>
      obtain ⟨y, l, rfl, h1, h2⟩ := h.inv
      exact .cons (K.nrm_rep h1) (ih _ _ h2)
theorem nrmL_clean : ∀ (ks : List K) (cs : List AV), AV.cleanL cs = true → AV.cleanL (nrmL ks cs) = true := by
  intro ks
  induction ks with
  | nil => intro cs h; unfold nrmL; exact h
  | cons k ks ih =>
    intro cs h
    cases cs with
    | nil => exact h
    | cons x cs =>
      simp only [AV.cleanL, Bool.and_eq_true] at h
      simp only [nrmL, AV.cleanL, Bool.and_eq_true]
      exact ⟨K.nrm_clean h.1, ih _ h.2⟩
theorem nrmK_rep {g : G} {ks : Option (List K)} {x : AV} {v : Value} (h : Rep g x v) : Rep g (nrmK ks x) v := by
  unfold nrmK
  split
  · obtain ⟨vs, rfl, hr⟩ := h.reps
    exact (nrmL_rep _ _ _ hr).agg
  · exact K.nrm_rep h
  · exact h
theorem nrmK_clean {ks : Option (List K)} {x : AV} (h : x.clean = true) : (nrmK ks x).clean = true := by
  unfold nrmK
  split
  · simp only [AV.clean] at h ⊢; exact nrmL_clean _ _ h
  · exact K.nrm_clean h
  · exact h
theorem nrmT_rep {g : G} : ∀ (ts : List TypeId) (cs : List AV) (vs : List Value), Reps g cs vs → Reps g (nrmT P ts cs) vs := by
  intro ts
  induction ts with
  | nil => intro cs vs h; unfold nrmT; exact h
  | cons k ks ih =>
    intro cs vs h
    cases cs with
    | nil => exact h
    | cons x cs =>
      obtain ⟨y, l, rfl, h1, h2⟩ := h.inv
      exact .cons (nrmK_rep h1) (ih _ _ h2)
theorem nrmT_clean : ∀ (ts : List TypeId) (cs : List AV), AV.cleanL cs = true → AV.cleanL (nrmT P ts cs) = true := by
  intro ts
  induction ts with
  | nil => intro cs h; unfold nrmT; exact h
  | cons k ks ih =>
    intro cs h
    cases cs with
    | nil => exact h
    | cons x cs =>
      simp only [AV.cleanL, Bool.and_eq_true] at h
      simp only [nrmT, AV.cleanL, Bool.and_eq_true]
      exact ⟨nrmK_clean h.1, ih _ h.2⟩
theorem nrmR_rep {g : G} {ts : List TypeId} {x : AV} {v : Value} (h : Rep g x v) : Rep g (nrmR P ts x) v := by
  unfold nrmR
  split
  · exact nrmK_rep h
  · obtain ⟨vs, rfl, hr⟩ := h.repsT
    exact (nrmT_rep _ _ _ hr).tup
  · exact h
theorem nrmR_clean {ts : List TypeId} {x : AV} (h : x.clean = true) : (nrmR P ts x).clean = true := by
  unfold nrmR
  split
  · exact nrmK_clean h
  · simp only [AV.clean] at h ⊢; exact nrmT_clean _ _ h
  · exact h
theorem nrmO_end {g : G} {f : FuncId} {out : Out} {e : Ending} (h : EndR g out e) : EndR g (nrmO P f out) e := by
  cases out with
  | ret x =>
    cases e with
    | returned v => exact nrmR_rep (P := P) h
    | panicked ch => exact h.elim
    | outgrown => exact h.elim
  | pan x => exact h
theorem nrmO_clean {f : FuncId} {out : Out} (h : out.val.clean = true) : (nrmO P f out).val.clean = true := by
  cases out with
  | ret x => exact nrmR_clean (P := P) h
  | pan x => exact h
/-- What the evaluator yields, the machine returns. -/
theorem ev_sound (hE : ExtOk P W0 C) (hED : ExtDOk P W0 C) (hC : CatchOk P C) (hmix : P.follows .mixedOrders = true) : ∀ k, SoundF P W0 (evF P C k) ∧ SoundD P W0 (evD P C k) := by
  intro k
  induction k with
  | zero => exact ⟨fun f args out h => by simp [evF] at h, fun f args s out s' h => by simp [evD] at h⟩
  | succ k ih =>
    obtain ⟨hF, hD⟩ := ih
    constructor
    · intro f args out h
      unfold evF stepF at h
      obtain ⟨hc, h⟩ := cnd_some h
      refine ⟨hc, fun g w vals hold hheld ha hcl => ?_⟩
      split at h
      · rename_i hx hext
        rw [Option.map_eq_some_iff] at h
        obtain ⟨x, hx, rfl⟩ := h
        exact hE _ _ _ _ hext hx hc g w vals hold hheld ha hcl
      · rw [Option.map_eq_some_iff] at h
        obtain ⟨out1, h2, rfl⟩ := h
        rw [Option.bind_eq_some_iff] at h2
        obtain ⟨⟨o1, s1⟩, hb, hs⟩ := h2
        let g0 : G := { fz := g.fz, eta := fun _ => none, room := fun _ _ => none }
        have hm : Mem g0 { tm := [], kb := 0, hp := [], nx := fun _ => 0, lv := [], df := [] } w w.heap.size := {
          held := hheld
          base := Nat.le_refl _
          nod := .nil
          blks := fun x hx => by cases hx
          inj := fun x hx => by cases hx
          old := fun x hx => by cases hx
          etaN := fun _ _ => rfl
          roomN := fun _ _ _ => rfl
          toks := fun e he => by cases he
          oldT := fun e he => by cases he
          tnod := fun e he => by cases he
          srt := .nil
          tinj := fun e he => by cases he
          apart := fun e he => by cases he }
        have ha0 : Reps g0 args vals.toList := Reps.clean (g := g) (g' := g0) (fun _ _ _ h => h) ha hcl
        refine (body_sound hC hF hD hmix hold hm ha0 hb).mono fun e w' hp => ?_
        obtain ⟨g1, hn, hm1, he⟩ := hp
        obtain ⟨g2, s2, hm2, hfz2, hsame2, he2, hcl2⟩ := snapEnd hm1 he hs
        exact ⟨g2, fun b o v hv => hfz2 _ _ _ (hn.le.fz _ _ _ hv), hm2.held, hn.below, fun b o hb => (hsame2 b o hb).trans (hn.fz b o hb), nrmO_end he2, nrmO_clean hcl2⟩
    · intro f args s out s' h
      unfold evD stepD at h
      obtain ⟨hc, h⟩ := cnd_some h
      refine ⟨hc, fun g w B vals hold hm ha => ?_⟩
      split at h
      · rename_i hx hext
        rw [Option.map_eq_some_iff] at h
        obtain ⟨⟨x, s1⟩, hx, h⟩ := h
        simp only [Prod.mk.injEq] at h
        obtain ⟨rfl, rfl⟩ := h
        exact hED _ _ _ _ _ _ hext hx hc g w B vals hold hm ha
      · rw [Option.map_eq_some_iff] at h
        obtain ⟨⟨o1, s1⟩, hb, h⟩ := h
        unfold pop at h
        simp only [Prod.mk.injEq] at h
        obtain ⟨rfl, rfl⟩ := h
        refine (body_sound hC hF hD hmix hold hm ha hb).mono fun e w' hp => ?_
        obtain ⟨g1, hn, hm1, he⟩ := hp
        refine ⟨g1, hn, ?_, he⟩
        cases C.rows f with
        | true => exact hm1
        | false => exact hm1.sub List.filter_sublist rfl rfl
end
end Go.Ev
