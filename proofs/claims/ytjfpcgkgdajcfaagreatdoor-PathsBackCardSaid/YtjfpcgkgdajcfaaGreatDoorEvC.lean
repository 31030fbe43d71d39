/-
  Calls and regions in the text's order are sound; no condition but the callees' soundness.
-/
import Derived.Test.YtjfpcgkgdajcfaaGreatDoorEvA
namespace Go.Ev
open Go Go.RowKit

/-- How a call ends, and what it ends with. -/
def EndR (g : G) : Out → Ending → Prop
  | .ret x, .returned v => Rep g x v
  | .pan x, .panicked ch => ∃ v, ch = [{ v, recovered := false }] ∧ Rep g x v
  | _, _ => False
def Out.val : Out → AV
  | .ret x | .pan x => x
theorem EndR.mono {g g' : G} (hg : g.le g') {out : Out} {e : Ending} (h : EndR g out e) : EndR g' out e := by
  cases out <;> cases e <;> first | exact Rep.mono hg h | (obtain ⟨v, h1, h2⟩ := h; exact ⟨v, h1, h2.mono hg⟩) | exact h
theorem EndR.clean {g g' : G} (hg : ∀ b o v, g.fz b o = some v → g'.fz b o = some v) {out : Out} {e : Ending} (h : EndR g out e) (hc : out.val.clean = true) : EndR g' out e := by
  cases out <;> cases e <;> first | exact Rep.clean hg h hc | (obtain ⟨v, h1, h2⟩ := h; exact ⟨v, h1, h2.clean hg hc⟩) | exact h
/-- The world has the beginning's blocks, as they were. -/
def Old (W0 w : World) (B : Nat) : Prop := W0.heap.size ≤ B ∧ ∀ k, k < W0.heap.size → w.heap[k]? = W0.heap[k]?
theorem Old.next {W0 w w' : World} {B : Nat} (h : Old W0 w B) (hb : Below B w w') : Old W0 w' B :=
  ⟨h.1, fun k hk => (hb.block k (Nat.lt_of_lt_of_le hk h.1)).trans (h.2 k hk)⟩
def Held (g : G) (w : World) : Prop := ∀ b o v, g.fz b o = some v → w.cell? ⟨b, o, none⟩ = some v
/-- A step on: nothing old has changed. -/
structure Nxt (g : G) (w : World) (B : Nat) (g' : G) (w' : World) : Prop where
  le : g.le g'
  below : Below B w w'
  fz : ∀ b o, b < B → g'.fz b o = g.fz b o
theorem Nxt.refl (g : G) (w : World) (B : Nat) : Nxt g w B g w := ⟨.refl g, .refl B w, fun _ _ _ => rfl⟩
theorem Nxt.trans {g g' g'' : G} {w w' w'' : World} {B : Nat} (h : Nxt g w B g' w') (k : Nxt g' w' B g'' w'') : Nxt g w B g'' w'' :=
  ⟨h.le.trans k.le, h.below.trans k.below, fun b o hb => (k.fz b o hb).trans (h.fz b o hb)⟩
section
variable (P : Program)
def SoundF (W0 : World) (cF : FuncId → List AV → Option Out) : Prop := ∀ f args out, cF f args = some out → callOk P f = true ∧ ∀ (g : G) (w : World) (vals : Array Value), Old W0 w w.heap.size → Held g w → Reps g args vals.toList → AV.cleanL args = true →
  Calls P f vals w fun e w' => ∃ g' : G, (∀ b o v, g.fz b o = some v → g'.fz b o = some v) ∧ Held g' w' ∧ Below w.heap.size w w' ∧ (∀ b o, b < w.heap.size → g'.fz b o = g.fz b o) ∧ EndR g' out e ∧ out.val.clean = true
def SoundD (W0 : World) (cD : FuncId → List AV → St → Option (Out × St)) : Prop := ∀ f args s out s', cD f args s = some (out, s') → callOk P f = true ∧ ∀ (g : G) (w : World) (B : Nat) (vals : Array Value), Old W0 w B → Mem g s w B → Reps g args vals.toList →
  Calls P f vals w fun e w' => ∃ g', Nxt g w B g' w' ∧ Mem g' s' w' B ∧ EndR g' out e
/-- Deferred calls, as they lie. -/
def DfR (g : G) (l : List (FuncId × List AV)) (ds : List Deferred) : Prop := l.length = ds.length ∧ ∀ (i : Nat) (p : FuncId × List AV) (d : Deferred), l[i]? = some p → ds[i]? = some d → ∃ cap, d.target = .fn (.func p.1) cap ∧ Reps g p.2 (d.args ++ cap).toList
end
theorem DfR.mono {g g' : G} (hg : g.le g') {l : List (FuncId × List AV)} {ds : List Deferred} (h : DfR g l ds) : DfR g' l ds :=
  ⟨h.1, fun i p d h1 h2 => by obtain ⟨cap, a, b⟩ := h.2 i p d h1 h2; exact ⟨cap, a, b.mono hg⟩⟩
theorem DfR.cons {g : G} {l : List (FuncId × List AV)} {ds : List Deferred} (h : DfR g l ds) {p : FuncId × List AV} {d : Deferred} {cap : Array Value} (h1 : d.target = .fn (.func p.1) cap) (h2 : Reps g p.2 (d.args ++ cap).toList) : DfR g (p :: l) (d :: ds) := by
  refine ⟨by simp [h.1], fun i q e hq he => ?_⟩
  cases i with
  | zero => simp at hq he; subst hq; subst he; exact ⟨cap, h1, h2⟩
  | succ i => exact h.2 i q e (by simpa using hq) (by simpa using he)
structure Rel (W0 : World) (g : G) (s : St) (a : Act) (w : World) (B : Nat) : Prop where
  mem : Mem g s w B
  tms : Tms g s a
  df : DfR g s.df a.defers
  old : Old W0 w B
section
variable {W0 : World} {P : Program} {w : World} {g : G} {s : St} {a : Act} {B : Nat} {o : Oper} {C : Cfg} {cF : FuncId → List AV → Option Out} {cD : FuncId → List AV → St → Option (Out × St)} {mu : Bool}
theorem put_defers (a : Act) (d : Option Tmp) (v : Value) : (a.put d v).defers = a.defers := by cases d <;> rfl
theorem put_df (s : St) (d : Option Tmp) (x : AV) : (s.put d x).df = s.df := by cases d <;> rfl
theorem callOk_parts {f : FuncId} (h : callOk P f = true) : ∃ fn c, P.funcs[f]? = some fn ∧ fn.body = some c ∧ (fn.name == "runtime.NumGoroutine") = false := by
  unfold callOk at h
  split at h
  · rename_i fn hf
    rw [Bool.and_eq_true] at h
    obtain ⟨c, hc⟩ := Option.isSome_iff_exists.1 h.2
    exact ⟨fn, c, hf, hc, by simpa using h.1⟩
  · cases h
theorem run_callFunc {f : FuncId} (h : callOk P f = true) (args : Array Value) (w : World) : (callFunc f args).run P w = .ok (.enter f args) w := by
  obtain ⟨fn, c, hf, hb, hn⟩ := callOk_parts h
  unfold callFunc
  rw [run_bind, run_program]
  simp only [hf, hn, Bool.false_eq_true, if_false, hb, Option.isNone_some]
  rfl
theorem call_enter {c : Call} {X : Operand} {f : FuncId} {v1 v2 : Array Value} (ho : o.op = .call c) (hc : c.callee = .value X) (hv : a.eval X = .func (.func f) v1 v2) (h : callOk P f = true) :
    (execOp a.eval o).run P w = .ok (.enter f (v1 ++ c.args.map a.eval ++ v2)) w := by
  unfold execOp
  rw [ho]
  simp only
  rw [run_bind]
  unfold resolve
  simp only [hc, hv, Deferred.ofValue, run_pure, invoke]
  exact run_callFunc h _ w
theorem callee_parts {x : AV} {v : Value} {args xs : List AV} {f : FuncId} (hx : Rep g x v) (h : callee x args = some (f, xs)) : ∃ c1 c2 v1 v2, v = .func (.func f) v1 v2 ∧ xs = c1 ++ args ++ c2 ∧ Reps g c1 v1.toList ∧ Reps g c2 v2.toList := by
  unfold callee at h
  split at h
  · injection h with h
    simp only [Prod.mk.injEq] at h
    obtain ⟨rfl, rfl⟩ := h
    cases hx with
    | fn f c1 c2 v1 v2 l1 l2 h1 h2 => exact ⟨_, _, v1, v2, rfl, rfl, ⟨by simpa using l1, fun i x y hx hy => h1 i x y hx (by simpa using hy)⟩, ⟨by simpa using l2, fun i x y hx hy => h2 i x y hx (by simpa using hy)⟩⟩
  · cases h
/-- Behind a call in the caller's own state. -/
theorem dirty_wp {f : FuncId} {args : List AV} {vals : Array Value} {r : OpR} {K : Act → World → Prop} {Q : Exit → Act → World → Prop} (hD : SoundD P W0 cD) (hr : Rel W0 g s a w B) (ha : Reps g args vals.toList) (h : dirtyC cD o.dst f args s = some r)
    (hrun : callOk P f = true → (execOp a.eval o).run P w = .ok (.enter f vals) w)
    (hok : ∀ acc s', r = .ok acc s' → ∀ g' a' w', Nxt g w B g' w' → Rel W0 g' s' a' w' B → K a' w')
    (hpan : ∀ x s', r = .pan x s' → ∀ g' w' v, Nxt g w B g' w' → Rel W0 g' s' a w' B → Rep g' x v → Q (.panic [{ v, recovered := false }]) a w') : o.wp P a w K Q := by
  unfold dirtyC at h
  rw [Option.map_eq_some_iff] at h
  obtain ⟨⟨out, s1⟩, hc, rfl⟩ := h
  obtain ⟨hcall, hs⟩ := hD _ _ _ _ _ hc
  have hm : Mem g { s with tm := [], df := [], kb := kbUp s.kb (o.dst.getD 0) } w B := hr.mem.tm rfl rfl rfl
  have hs := hs g w B vals hr.old hm ha
  unfold Oper.wp
  rw [hrun hcall, Oper.upon_enter]
  refine hs.mono fun e w' hp => ?_
  obtain ⟨g', hn, hm', he⟩ := hp
  have hm2 : Mem g' (inFrame s s1) w' B := hm'.tm rfl rfl rfl
  cases out with
  | ret x =>
    cases e with
    | returned v =>
      refine hok _ _ rfl g' _ w' hn ⟨hm2.put _ _, Tms.put (s := inFrame s s1) (a := a) (hr.tms.mono hn.le) he o.dst, ?_, hr.old.next hn.below⟩
      rw [put_defers, put_df]
      exact hr.df.mono hn.le
    | panicked ch => exact he.elim
    | outgrown => exact he.elim
  | pan x =>
    cases e with
    | returned v => exact he.elim
    | panicked ch =>
      obtain ⟨v, rfl, hv⟩ := he
      exact hpan _ _ rfl g' w' v hn ⟨hm2, hr.tms.mono hn.le, hr.df.mono hn.le, hr.old.next hn.below⟩ hv
    | outgrown => exact he.elim
/-- Behind a clean call. -/
theorem clean_wp {f : FuncId} {args : List AV} {vals : Array Value} {r : OpR} {s1 : St} {g1 : G} {K : Act → World → Prop} {Q : Exit → Act → World → Prop} (hF : SoundF P W0 cF) (hr : Rel W0 g1 s1 a w B) (hg : Nxt g w B g1 w) (ha : Reps g1 args vals.toList) (hcl : AV.cleanL args = true) {acc0 : Acc} (h : (cF f args).map (afterC acc0 o.dst s1) = some r)
    (hrun : callOk P f = true → (execOp a.eval o).run P w = .ok (.enter f vals) w)
    (hok : ∀ acc s', r = .ok acc s' → ∀ g' a' w', Nxt g w B g' w' → Rel W0 g' s' a' w' B → K a' w')
    (hpan : ∀ x s', r = .pan x s' → ∀ g' w' v, Nxt g w B g' w' → Rel W0 g' s' a w' B → Rep g' x v → Q (.panic [{ v, recovered := false }]) a w') : o.wp P a w K Q := by
  rw [Option.map_eq_some_iff] at h
  obtain ⟨out, hc, rfl⟩ := h
  obtain ⟨hcall, hs⟩ := hF _ _ _ hc
  have hs := hs g1 w vals ⟨Nat.le_trans hr.old.1 hr.mem.base, hr.old.2⟩ hr.mem.held ha hcl
  unfold Oper.wp
  rw [hrun hcall, Oper.upon_enter]
  refine hs.mono fun e w' hp => ?_
  obtain ⟨g', hfz, hheld, hbel, hsame, he, hoc⟩ := hp
  let g2 : G := { fz := g'.fz, eta := g1.eta, room := g1.room }
  have hle : g1.le g2 := ⟨hfz, fun _ _ h => h, fun _ _ _ h => h⟩
  have hgb : w.grownBy w' none := ⟨hbel.os, hbel.tape, hbel.output, hbel.size, fun k hk _ => hbel.block k hk⟩
  have hm2 : Mem g2 s1 w' B := hr.mem.grow hle rfl rfl (fun b o hb => hsame b o hb) hgb (fun b o v _ hv => hheld b o v hv)
  have hn : Nxt g w B g2 w' := hg.trans ⟨hle, hbel.mono hr.mem.base, fun b o hb => hsame b o (Nat.lt_of_lt_of_le hb hr.mem.base)⟩
  have he2 : EndR g2 out e := EndR.clean (g := g') (g' := g2) (fun _ _ _ h => h) he hoc
  cases out with
  | ret x =>
    cases e with
    | returned v =>
      refine hok _ _ rfl g2 _ w' hn ⟨hm2.put _ _, (hr.tms.mono hle).put he2 o.dst, ?_, hr.old.next hn.below⟩
      rw [put_defers, put_df]
      exact hr.df.mono hle
    | panicked ch => exact he2.elim
    | outgrown => exact he2.elim
  | pan x =>
    cases e with
    | returned v => exact he2.elim
    | panicked ch =>
      obtain ⟨v, rfl, hv⟩ := he2
      exact hpan _ _ rfl g2 w' v hn ⟨hm2, hr.tms.mono hle, hr.df.mono hle, hr.old.next hn.below⟩ hv
    | outgrown => exact he2.elim
theorem evCall_wp {f : FuncId} {args : List AV} {vals : Array Value} {r : OpR} {K : Act → World → Prop} {Q : Exit → Act → World → Prop} (hF : SoundF P W0 cF) (hD : SoundD P W0 cD) (hr : Rel W0 g s a w B) (ha : Reps g args vals.toList) (h : evCall C cF cD o.dst f args s = some r)
    (hrun : callOk P f = true → (execOp a.eval o).run P w = .ok (.enter f vals) w)
    (hok : ∀ acc s', r = .ok acc s' → ∀ g' a' w', Nxt g w B g' w' → Rel W0 g' s' a' w' B → K a' w')
    (hpan : ∀ x s', r = .pan x s' → ∀ g' w' v, Nxt g w B g' w' → Rel W0 g' s' a w' B → Rep g' x v → Q (.panic [{ v, recovered := false }]) a w') : o.wp P a w K Q := by
  unfold evCall at h
  cases hd : C.dirty f with
  | true => rw [hd, cond_true] at h; exact dirty_wp hD hr ha h hrun hok hpan
  | false =>
    rw [hd, cond_false] at h
    cases hc : AV.cleanL (AV.shedL args) with
    | true => rw [hc, cond_true] at h; exact clean_wp hF hr (.refl g w B) (Reps.shed args ha) hc h hrun hok hpan
    | false =>
      rw [hc, cond_false] at h
      unfold snapC at h
      rw [Option.bind_eq_some_iff] at h
      obtain ⟨⟨xs, s1⟩, hs, h⟩ := h
      cases hc2 : AV.cleanL xs with
      | true =>
        simp only [hc2, cnd_true] at h
        obtain ⟨g1, ⟨a1, a2, a3, a4⟩, b1⟩ := snapL_sound (fun hm hr h => snap1_sound hm hr h) _ _ _ _ _ _ hr.mem ha hs
        refine clean_wp hF ⟨a2, ?_, ?_, hr.old⟩ ⟨a1, .refl B w, a4⟩ b1 hc2 h hrun hok hpan
        · have := hr.tms.mono a1
          unfold Tms at this ⊢
          rw [a3.tm]; exact this
        · rw [a3.df]; exact hr.df.mono a1
      | false =>
        simp only [hc2, cnd_false] at h
        exact dirty_wp hD hr ha h hrun hok hpan
/-- An operation. -/
theorem evOp_wp {r : OpR} {K : Act → World → Prop} {Q : Exit → Act → World → Prop} (hF : SoundF P W0 cF) (hD : SoundD P W0 cD) (hr : Rel W0 g s a w B) (h : evOp P C cF cD mu o s = some r)
    (hok : ∀ acc s', r = .ok acc s' → ∀ g' a' w', Nxt g w B g' w' → Rel W0 g' s' a' w' B → K a' w')
    (hpan : ∀ x s', r = .pan x s' → ∀ g' w' v, Nxt g w B g' w' → Rel W0 g' s' a w' B → Rep g' x v → Q (.panic [{ v, recovered := false }]) a w') : o.wp P a w K Q := by
  have hval : ∀ op, o.op = op → (evV P mu o.dst s.at s op).map (putR o.dst) = some r → o.wp P a w K Q := by
    intro op hop hv
    rw [Option.map_eq_some_iff] at hv
    obtain ⟨⟨x, acc, s'⟩, hv, rfl⟩ := hv
    rw [← hop] at hv
    obtain ⟨⟨w', g', hres, hle, hm', hb, hfz⟩, hfr⟩ := evV_sound hr.mem hr.tms hv
    have htm : Tms g' s' a := by
      have := hr.tms.mono hle
      unfold Tms at this ⊢
      rw [hfr.tm]; exact this
    have hdf : DfR g' s'.df a.defers := by rw [hfr.df]; exact hr.df.mono hle
    unfold Oper.wp
    rcases hres with ⟨v, he, hv⟩ | ⟨he, hx⟩
    · rw [he, Oper.upon_value]
      refine hok acc (s'.put o.dst x) rfl g' _ w' ⟨hle, hb, hfz⟩ ⟨hm'.put _ _, htm.put hv o.dst, ?_, hr.old.next hb⟩
      rw [put_defers, put_df]; exact hdf
    · rw [he, Oper.upon_skip]
      refine hok acc (s'.put o.dst x) rfl g' _ w' ⟨hle, hb, hfz⟩ ⟨hm'.put _ _, htm.put (by rw [hx]; exact Rep.undef g') o.dst, ?_, hr.old.next hb⟩
      rw [put_defers, put_df]; exact hdf
  unfold evOp at h
  split at h
  · rename_i c hop
    split at h
    · rename_i X hX
      rw [Option.bind_eq_some_iff] at h
      obtain ⟨⟨f, xs⟩, hcal, h⟩ := h
      obtain ⟨c1, c2, v1, v2, hv, rfl, h1, h2⟩ := callee_parts (hr.tms.at X) hcal
      have hl2 : Reps g (c.args.toList.map s.at) (c.args.map a.eval).toList := by simpa using hr.tms.list c.args.toList
      refine evCall_wp (vals := v1 ++ c.args.map a.eval ++ v2) hF hD hr ?_ h (fun hc => call_enter hop hX hv hc) hok hpan
      rw [Array.toList_append, Array.toList_append]
      exact (h1.app hl2).app h2
    · exact hval _ hop h
  · rename_i X hop
    split at h
    · rename_i t y hX
      injection h with h
      subst h
      have hx := hr.tms.at X
      rw [hX] at hx
      unfold Oper.wp
      generalize hz : a.eval X = z at hx
      cases hx with
      | ifc _ _ yv hy =>
        have he : (execOp a.eval o).run P w = .halt (.panic (.iface t yv)) w := by
          unfold execOp; rw [hop]; simp only [hz]
          rfl
        rw [he, Oper.upon_panic]
        exact hpan _ _ rfl g w _ (.refl g w B) hr (.ifc t y yv hy)
    · cases h
  · rename_i c hop
    split at h
    · rename_i X hX
      rw [Option.map_eq_some_iff] at h
      obtain ⟨⟨f, xs⟩, hcal, rfl⟩ := h
      obtain ⟨c1, c2, v1, v2, hv, rfl, h1, h2⟩ := callee_parts (hr.tms.at X) hcal
      have hl2 : Reps g (c.args.toList.map s.at) (c.args.map a.eval).toList := by simpa using hr.tms.list c.args.toList
      unfold Oper.wp
      have he : (execOp a.eval o).run P w = .ok (.defer { target := .fn (.func f) v2, args := v1 ++ c.args.map a.eval }) w := by
        unfold execOp; rw [hop]; simp only
        rw [run_bind]
        unfold resolve
        simp only [hX, hv, Deferred.ofValue, run_pure]
      rw [he, Oper.upon_defer]
      refine hok _ _ rfl g _ w (.refl g w B) ⟨?_, ?_, ?_, hr.old⟩
      · exact (hr.mem.tm (s' := { s with df := (f, c1 ++ c.args.toList.map s.at ++ c2) :: s.df }) rfl rfl rfl).put _ _
      · exact Tms.put (s := { s with df := (f, c1 ++ c.args.toList.map s.at ++ c2) :: s.df }) (a := { a with defers := _ :: a.defers }) hr.tms (Rep.undef g) o.dst
      · rw [put_defers, put_df]
        refine hr.df.cons (cap := v2) rfl ?_
        rw [Array.toList_append, Array.toList_append]
        exact (h1.app hl2).app h2
    · cases h
  · exact hval _ rfl h
/-- How a piece of code ends. -/
def ExR (g : G) : Ex → Exit → Prop
  | .normal, .normal => True
  | .exit i, .exit j => i = j
  | .ret, .ret => True
  | .pan x, .panic ch => ∃ v, ch = [{ v, recovered := false }] ∧ Rep g x v
  | _, _ => False
theorem ExR.mono {g g' : G} (hg : g.le g') {e : Ex} {E : Exit} (h : ExR g e E) : ExR g' e E := by
  cases e <;> cases E <;> first | exact h | (obtain ⟨v, h1, h2⟩ := h; exact ⟨v, h1, h2.mono hg⟩)
def Post (W0 : World) (g : G) (w : World) (B : Nat) (e : Ex) (s' : St) (E : Exit) (a' : Act) (w' : World) : Prop := ∃ g', Nxt g w B g' w' ∧ Rel W0 g' s' a' w' B ∧ ExR g' e E
theorem Post.trans {g g' : G} {w w' : World} {e : Ex} {s' : St} {E : Exit} {a'' : Act} {w'' : World} (k : Post W0 g' w' B e s' E a'' w'') (h : Nxt g w B g' w') : Post W0 g w B e s' E a'' w'' := by
  obtain ⟨g2, h1, h2, h3⟩ := k
  exact ⟨g2, h.trans h1, h2, h3⟩
theorem gd_yield {t : Tmp} {want r : Bool} (ht : Tms g s a) (h : (s.at (.tmp t)).gd want = some r) : ((match a.tmps[t]? with | some (.bool b) => some b | _ => none) == some want) = r := by
  have hr := ht.at (.tmp t)
  revert hr h
  generalize s.at (.tmp t) = x
  intro h hr
  have e : a.eval (.tmp t) = a.tmps.getD t Go.undef := rfl
  rw [e, Array.getD_eq_getD_getElem?] at hr
  unfold AV.gd at h
  split at h
  · injection h with h
    have := bool_rep hr
    cases hc : a.tmps[t]? with
    | none => rw [hc] at this; cases this
    | some v =>
      rw [hc] at this
      simp only [Option.getD_some] at this
      subst this
      rw [← h]
      simp only
      rename_i b
      cases b <;> cases want <;> rfl
  · injection h with h
    subst h
    obtain ⟨vs, hv, hvs⟩ := hr.repsT
    cases hc : a.tmps[t]? with
    | none => rfl
    | some v =>
      rw [hc] at hv
      simp only [Option.getD_some] at hv
      subst hv
      rfl
  · cases h
theorem asB_yield {t : Tmp} {b : Bool} (ht : Tms g s a) (h : (s.at (.tmp t)).asB = some b) : a.tmps[t]? = some (.bool b) := by
  have := asB_rep (ht.at (.tmp t)) h
  have e : a.eval (.tmp t) = a.tmps.getD t Go.undef := rfl
  rw [e, Array.getD_eq_getD_getElem?] at this
  cases hc : a.tmps[t]? with
  | none => rw [hc] at this; cases this
  | some v => rw [hc] at this; simp at this; rw [this]
/-- Is it wanted? As the machine asks. -/
theorem wanted_sound {ops : Array Oper} {want : Bool} (ht : Tms g s a) (h : wanted (ops.toList.map (·.dst)) s o = some want) : Region.wanted o (yielded ops a.tmps) = want := by
  unfold wanted at h
  unfold Region.wanted
  split at h
  · rename_i hg
    injection h with h
    rw [hg]; exact h
  · rename_i j wt hg
    rw [hg]
    simp only
    split at h
    · rename_i t hd
      have hy := gd_yield ht h
      have : yielded ops a.tmps j = (match a.tmps[t]? with | some (.bool b) => some b | _ => none) := by
        unfold yielded
        rw [List.getElem?_map, Array.getElem?_toList, Option.map_eq_some_iff] at hd
        obtain ⟨oj, hoj, hdj⟩ := hd
        simp only [hoj, Option.bind_some, hdj]
        cases a.tmps[t]? with
        | none => rfl
        | some v => cases v <;> rfl
      rw [this]
      exact hy
    · cases h
/-- A region in the text's order. -/
theorem evSeq_wp (hF : SoundF P W0 cF) (hD : SoundD P W0 cD) {ops : Array Oper} : ∀ (l : List Oper) (i : Nat) (g : G) (s : St) (a : Act) (w : World) (e : Ex) (s' : St), ops.toList.drop i = l → Rel W0 g s a w B → evSeq P C cF cD mu (ops.toList.map (·.dst)) l s = some (e, s') →
    ∀ Q : Exit → Act → World → Prop, (∀ E a' w', Post W0 g w B e s' E a' w' → Q E a' w') → wpOps P ops Q (List.range' i l.length) a w := by
  intro l
  induction l with
  | nil =>
    intro i g s a w e s' _ hr h Q hQ
    simp only [evSeq, Option.some.injEq, Prod.mk.injEq] at h
    obtain ⟨rfl, rfl⟩ := h
    exact hQ _ _ _ ⟨g, .refl g w B, hr, trivial⟩
  | cons o l ih =>
    intro i g s a w e s' hl hr h Q hQ
    have hoi : ops[i]? = some o := by
      rw [← Array.getElem?_toList]
      have : (ops.toList.drop i)[0]? = some o := by rw [hl]; rfl
      rw [List.getElem?_drop, Nat.add_zero] at this
      exact this
    have hl' : ops.toList.drop (i + 1) = l := by
      rw [← List.drop_drop, hl]; rfl
    unfold evSeq at h
    rw [Option.bind_eq_some_iff] at h
    obtain ⟨want, hw, h⟩ := h
    have hw2 := wanted_sound hr.tms hw
    rw [List.length_cons, List.range'_succ]
    unfold wpOps
    simp only [hoi, hw2]
    cases want with
    | true =>
      simp only [if_true]
      left
      unfold wantK opT at h
      simp only at h
      rw [Option.bind_eq_some_iff] at h
      obtain ⟨r, hop, h⟩ := h
      refine evOp_wp hF hD hr hop (fun acc s1 hrr g' a' w' hn hr' => ?_) (fun x s1 hrr g' w' v hn hr' hx => ?_)
      · subst hrr
        exact ih (i + 1) g' s1 a' w' e s' hl' hr' h Q (fun E a2 w2 hp => hQ E a2 w2 (hp.trans hn))
      · subst hrr
        unfold opK at h
        simp only at h
        injection h with h
        simp only [Prod.mk.injEq] at h
        obtain ⟨rfl, rfl⟩ := h
        exact hQ _ _ _ ⟨g', hn, hr', v, rfl, hx⟩
    | false =>
      simp only [Bool.false_eq_true, if_false]
      unfold wantK at h
      simp only at h
      refine ih (i + 1) g _ _ w e s' hl' ⟨hr.mem.put _ _, hr.tms.put (Rep.undef g) o.dst, ?_, hr.old⟩ h Q hQ
      rw [put_defers, put_df]; exact hr.df
end
end Go.Ev
