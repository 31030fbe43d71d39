/-
  Code and calls are sound; no condition but what the evaluator leans on.
-/
import Derived.Test.YtjfpcgkgdajcfaaGreatDoorEvJ
import Derived.LoopN
import Derived.Defers
import Derived.Scope
namespace Go.Ev
open Go Go.RowKit

section
variable {w : World} {g : G} {s : St} {B : Nat}
theorem Rel.drop {W0 : World} {a : Act} {l : List Blk} (h : Rel W0 g s a w B) (hl : l.Sublist s.hp) : Rel W0 g { s with hp := l } a w B := ⟨h.mem.sub hl rfl rfl, h.tms, h.df, h.old⟩
end
section
variable {W0 : World} {P : Program} {B : Nat} {C : Cfg} {cF : FuncId → List AV → Option Out} {cD : FuncId → List AV → St → Option (Out × St)} {mu : Bool}
theorem evC_wp (hF : SoundF P W0 cF) (hD : SoundD P W0 cD) (hmix : P.follows .mixedOrders = true) (n : Nat) : ∀ (c : Code) (g : G) (s : St) (a : Act) (w : World) (e : Ex) (s' : St), Rel W0 g s a w B → evC P C cF cD mu (fun b => loopN b n) c s = some (e, s') →
    ∀ Q : Exit → Act → World → Prop, (∀ E a' w', Post W0 g w B e s' E a' w' → Q E a' w') → c.wp P Q a w := by
  intro c
  induction c with
  | skip =>
    intro g s a w e s' hr h Q hQ
    simp only [evC, Option.some.injEq, Prod.mk.injEq] at h
    obtain ⟨rfl, rfl⟩ := h
    exact wp_skip (hQ _ _ _ ⟨g, .refl g w B, hr, trivial⟩)
  | label l =>
    intro g s a w e s' hr h Q hQ
    simp only [evC, Option.some.injEq, Prod.mk.injEq] at h
    obtain ⟨rfl, rfl⟩ := h
    exact wp_label (hQ _ _ _ ⟨g, .refl g w B, hr, trivial⟩)
  | exit id =>
    intro g s a w e s' hr h Q hQ
    simp only [evC, Option.some.injEq, Prod.mk.injEq] at h
    obtain ⟨rfl, rfl⟩ := h
    exact wp_exit (hQ _ _ _ ⟨g, .refl g w B, hr, rfl⟩)
  | ret =>
    intro g s a w e s' hr h Q hQ
    simp only [evC, Option.some.injEq, Prod.mk.injEq] at h
    obtain ⟨rfl, rfl⟩ := h
    exact wp_ret (hQ _ _ _ ⟨g, .refl g w B, hr, trivial⟩)
  | region id ops draw =>
    intro g s a w e s' hr h Q hQ
    unfold evC at h
    cases draw with
    | true => exact evDraw_wp hF hD hmix hr h Q hQ
    | false =>
      rw [cnd_false] at h
      refine wp_region ?_
      have := evSeq_wp (B := B) hF hD ops.toList 0 g s a w e s' rfl hr h Q hQ
      rw [List.range_eq_range', ← Array.length_toList]
      exact this
  | seq x y ihx ihy =>
    intro g s a w e s' hr h Q hQ
    unfold evC at h
    rw [Option.bind_eq_some_iff] at h
    obtain ⟨⟨e1, s1⟩, h1, h2⟩ := h
    refine wp_seq (ihx g s a w e1 s1 hr h1 _ (fun E a' w' hp => ?_))
    obtain ⟨g', hn, hr', hx⟩ := hp
    cases e1 with
    | normal =>
      cases E <;> first | (cases hx; done) | skip
      simp only [Exit.then]
      exact ihy g' s1 a' w' e s' hr' h2 Q (fun E2 a2 w2 hp2 => hQ E2 a2 w2 (hp2.trans hn))
    | exit i =>
      simp only [seqK, Option.some.injEq, Prod.mk.injEq] at h2
      obtain ⟨rfl, rfl⟩ := h2
      cases E <;> first | (cases hx; done) | exact hQ _ _ _ ⟨g', hn, hr', hx⟩
    | ret =>
      simp only [seqK, Option.some.injEq, Prod.mk.injEq] at h2
      obtain ⟨rfl, rfl⟩ := h2
      cases E <;> first | (cases hx; done) | exact hQ _ _ _ ⟨g', hn, hr', hx⟩
    | pan x =>
      simp only [seqK, Option.some.injEq, Prod.mk.injEq] at h2
      obtain ⟨rfl, rfl⟩ := h2
      cases E <;> first | (cases hx; done) | exact hQ _ _ _ ⟨g', hn, hr', hx⟩
  | cond c x y ihx ihy =>
    intro g s a w e s' hr h Q hQ
    unfold evC at h
    rw [Option.bind_eq_some_iff] at h
    obtain ⟨t, ht, h⟩ := h
    refine wp_cond (asB_rep (hr.tms.at c) ht) ?_
    cases t with
    | true => exact ihx g s a w e s' hr h Q hQ
    | false => exact ihy g s a w e s' hr h Q hQ
  | block id x ih =>
    intro g s a w e s' hr h Q hQ
    unfold evC at h
    rw [Option.map_eq_some_iff] at h
    obtain ⟨⟨e1, s1⟩, h1, h2⟩ := h
    refine wp_block (ih g s a w e1 s1 hr h1 _ (fun E a' w' hp => ?_))
    obtain ⟨g', hn, hr', hx⟩ := hp
    cases e1 with
    | exit i =>
      cases E <;> first | (cases hx; done) | skip
      rename_i j
      have hij : i = j := hx
      subst hij
      simp only [Exit.inBlock]
      simp only [blkK] at h2
      by_cases hid : i = id
      · rw [if_pos hid]
        rw [show (i == id) = true by simpa using hid, cond_true] at h2
        simp only [Prod.mk.injEq] at h2
        obtain ⟨rfl, rfl⟩ := h2
        exact hQ _ _ _ ⟨g', hn, hr', trivial⟩
      · rw [if_neg hid]
        rw [show (i == id) = false by simpa using hid, cond_false] at h2
        simp only [Prod.mk.injEq] at h2
        obtain ⟨rfl, rfl⟩ := h2
        exact hQ _ _ _ ⟨g', hn, hr', rfl⟩
    | normal =>
      simp only [blkK, Prod.mk.injEq] at h2
      obtain ⟨rfl, rfl⟩ := h2
      cases E <;> first | (cases hx; done) | exact hQ _ _ _ ⟨g', hn, hr', hx⟩
    | ret =>
      simp only [blkK, Prod.mk.injEq] at h2
      obtain ⟨rfl, rfl⟩ := h2
      cases E <;> first | (cases hx; done) | exact hQ _ _ _ ⟨g', hn, hr', hx⟩
    | pan x =>
      simp only [blkK, Prod.mk.injEq] at h2
      obtain ⟨rfl, rfl⟩ := h2
      cases E <;> first | (cases hx; done) | exact hQ _ _ _ ⟨g', hn, hr', hx⟩
  | loop x ih =>
    intro g s a w e s' hr h Q hQ
    unfold evC at h
    refine wp_loop_rounds n ?_
    have key : ∀ m g s a w, Rel W0 g s a w B → loopN (fun s => (evC P C cF cD mu (fun b => loopN b n) x s).map (dropB mu s)) m s = some (e, s') → (∀ E a' w', Post W0 g w B e s' E a' w' → Q E a' w') → Code.rounds P x Q m a w := by
      intro m
      induction m with
      | zero => intro g s a w _ h; cases h
      | succ m ihm =>
        intro g s a w hr h hQ
        unfold loopN at h
        rw [Option.bind_eq_some_iff] at h
        obtain ⟨⟨e1, s1⟩, h1, h2⟩ := h
        rw [Option.map_eq_some_iff] at h1
        obtain ⟨⟨e0, s0⟩, h1, h3⟩ := h1
        unfold dropB at h3
        simp only [Prod.mk.injEq] at h3
        obtain ⟨rfl, rfl⟩ := h3
        rw [rounds_succ]
        refine ih g s a w e0 s0 hr h1 _ (fun E a' w' hp => ?_)
        obtain ⟨g', hn, hr0, hx⟩ := hp
        have hr' := hr0.drop (l := s0.hp.filter fun b => (mu && !b.va) || s.hp.any fun c => c.k == b.k) List.filter_sublist
        cases e0 with
        | normal =>
          cases E <;> first | (cases hx; done) | skip
          simp only [Exit.then]
          exact ihm g' _ a' w' hr' h2 (fun E2 a2 w2 hp2 => hQ E2 a2 w2 (hp2.trans hn))
        | exit i =>
          simp only [Option.some.injEq, Prod.mk.injEq] at h2
          obtain ⟨rfl, rfl⟩ := h2
          cases E <;> first | (cases hx; done) | exact hQ _ _ _ ⟨g', hn, hr', hx⟩
        | ret =>
          simp only [Option.some.injEq, Prod.mk.injEq] at h2
          obtain ⟨rfl, rfl⟩ := h2
          cases E <;> first | (cases hx; done) | exact hQ _ _ _ ⟨g', hn, hr', hx⟩
        | pan x =>
          simp only [Option.some.injEq, Prod.mk.injEq] at h2
          obtain ⟨rfl, rfl⟩ := h2
          cases E <;> first | (cases hx; done) | exact hQ _ _ _ ⟨g', hn, hr', hx⟩
    exact key n g s a w hr h hQ
  | scope x ih =>
    intro g s a w e s' hr h Q hQ
    unfold evC at h
    refine wp_scope_straight (ih g s a w e s' hr h _ (fun E a' w' hp => ?_))
    have hq := hQ E a' w' hp
    obtain ⟨g', hn, hr', hx⟩ := hp
    cases e <;> cases E <;> first | (cases hx; done) | exact hq
  | _ => intro g s a w e s' hr h; cases h
end
end Go.Ev
