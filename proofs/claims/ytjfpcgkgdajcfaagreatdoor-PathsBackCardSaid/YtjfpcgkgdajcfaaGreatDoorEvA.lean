/-
  What is handed over: clean values, and rows that change no more; no condition.
-/
import Derived.Test.YtjfpcgkgdajcfaaGreatDoorEvZ
namespace Go.Ev
open Go Go.RowKit

theorem cleanL_mem : ∀ {l : List AV}, AV.cleanL l = true → ∀ x ∈ l, x.clean = true := by
  intro l
  induction l with
  | nil => intro _ x hx; cases hx
  | cons y l ih =>
    intro h x hx
    unfold AV.cleanL at h
    rw [Bool.and_eq_true] at h
    rcases List.mem_cons.1 hx with rfl | hx
    · exact h.1
    · exact ih h.2 x hx
theorem clean_agg {cs : List AV} (h : AV.clean (.agg cs) = true) : AV.cleanL cs = true := by unfold AV.clean at h; exact h
theorem clean_cell {e c : AV} {j : Nat} (h : e.clean = true) (hc : e.cells[j]? = some c) : c.clean = true := by
  cases e with
  | agg cs => exact cleanL_mem (clean_agg h) c (List.mem_of_getElem? hc)
  | _ => cases j with
    | zero => simp [AV.cells] at hc; subst hc; exact h
    | succ j => simp [AV.cells] at hc
/-- A clean value means the same wherever the cells that never change are known. -/
theorem Rep.clean {g g' : G} (hfz : ∀ b o v, g.fz b o = some v → g'.fz b o = some v) {x : AV} {v : Value} (h : Rep g x v) : x.clean = true → Rep g' x v := by
  induction h with
  | int k n => exact fun _ => .int k n
  | bool x => exact fun _ => .bool x
  | str l s h => exact fun _ => .str l s h
  | val x => exact fun _ => .val x
  | agg cs vs hl _ ih => exact fun hc => .agg cs vs hl fun i x y hx hy => ih i x y hx hy (cleanL_mem (clean_agg hc) x (List.mem_of_getElem? hx))
  | tup cs vs hl _ ih => exact fun hc => .tup cs vs hl fun i x y hx hy => ih i x y hx hy (cleanL_mem (by unfold AV.clean at hc; exact hc) x (List.mem_of_getElem? hx))
  | slNil n tok ht => exact fun _ => .slNil n tok ht
  | sl n els tok a cap f hs hn h1 _ hc ht ih =>
    intro hcl
    unfold AV.clean at hcl
    rw [Bool.and_eq_true] at hcl
    refine .sl n els tok a cap f hs hn (fun i j hi hj => hfz _ _ _ (h1 i j hi hj)) (fun i j e c he hc2 => ih i j e c he hc2 (clean_cell (cleanL_mem hcl.2 e (List.mem_of_getElem? he)) hc2)) hc ?_
    cases tok with
    | full => exact ht
    | no => trivial
    | own k t => cases hcl.1
  | hs => intro hcl; cases hcl
  | ep x a f hs hn h1 _ ih =>
    intro hcl
    unfold AV.clean at hcl
    exact .ep x a f hs hn (fun j hj => hfz _ _ _ (h1 j hj)) (fun j c hc => ih j c hc (clean_cell hcl hc))
  | pt => intro hcl; cases hcl
  | fn f c1 c2 v1 v2 l1 l2 _ _ i1 i2 =>
    intro hcl
    unfold AV.clean at hcl
    rw [Bool.and_eq_true] at hcl
    exact .fn f c1 c2 v1 v2 l1 l2 (fun i x y hx hy => i1 i x y hx hy (cleanL_mem hcl.1 x (List.mem_of_getElem? hx))) (fun i x y hx hy => i2 i x y hx hy (cleanL_mem hcl.2 x (List.mem_of_getElem? hx)))
  | ifc t x y _ ih => intro hcl; unfold AV.clean at hcl; exact .ifc t x y (ih hcl)
theorem Reps.clean {g g' : G} (hfz : ∀ b o v, g.fz b o = some v → g'.fz b o = some v) {l : List AV} {vs : List Value} (h : Reps g l vs) (hc : AV.cleanL l = true) : Reps g' l vs :=
  ⟨h.1, fun i x y hx hy => (h.2 i x y hx hy).clean hfz (cleanL_mem hc x (List.mem_of_getElem? hx))⟩
section
variable {w : World} {g : G} {s : St} {B : Nat}
/-- What a snapshot keeps. -/
def Snp (g : G) (s s' : St) (w : World) (B : Nat) (g' : G) : Prop := g.le g' ∧ Mem g' s' w B ∧ Frm s s' ∧ ∀ b o, b < B → g'.fz b o = g.fz b o
theorem Snp.refl (hm : Mem g s w B) : Snp g s s w B g := ⟨.refl g, hm, .refl s, fun _ _ _ => rfl⟩
theorem Frm.trans {a b c : St} (h : Frm a b) (k : Frm b c) : Frm a c := ⟨k.tm.trans h.tm, k.kb.trans h.kb, k.df.trans h.df⟩
theorem snap0_sound {x y : AV} {v : Value} {s' : St} (hm : Mem g s w B) (hr : Rep g x v) (h : snap0 x s = some (y, s')) : ∃ g', Snp g s s' w B g' ∧ Rep g' y v := by
  unfold snap0 at h
  split at h
  · injection h with h; simp only [Prod.mk.injEq] at h; obtain ⟨rfl, rfl⟩ := h
    refine ⟨g, .refl hm, ?_⟩
    cases hr with
    | slNil => exact .slNil _ .no (fun k t e => by cases e)
    | sl _ _ _ a cap f hs hn h1 h2 hc ht => exact .sl _ _ .no a cap f hs hn h1 h2 hc trivial
  · rename_i k t nn lo len full
    rw [Option.bind_eq_some_iff] at h
    obtain ⟨bk, hbk, h⟩ := h
    obtain ⟨hlen, h⟩ := cnd_some h
    injection h with h; simp only [Prod.mk.injEq] at h; obtain ⟨rfl, rfl⟩ := h
    have hlen : lo + len ≤ bk.els.length := by simpa using hlen
    obtain ⟨hb, _, hg⟩ := blk_parts hbk
    obtain ⟨b, lim, ho⟩ := hm.blks bk hb
    obtain ⟨g', hle, hm', hheld, hsame⟩ := hm.frz hbk ho
    refine ⟨g', ⟨hle, hm', ⟨rfl, rfl, rfl⟩, hsame⟩, ?_⟩
    cases hr with
    | hs _ _ _ _ _ _ b' lim' cap hη hc hl hf =>
    have h2 := ho.eta
    rw [hg, hη] at h2; injection h2 with h2; simp only [Prod.mk.injEq] at h2; obtain ⟨rfl, rfl, rfl⟩ := h2
    have hel : ((bk.els.drop lo).take len).length = len := by simp; omega
    have hrows : ∀ e ∈ (bk.els.drop lo).take len, e.row bk.n = true := fun e he => ho.rows e (List.mem_of_mem_drop (List.mem_of_mem_take he))
    have hget : ∀ {i : Nat} {e : AV}, ((bk.els.drop lo).take len)[i]? = some e → bk.els[lo + i]? = some e ∧ i < len := fun {i e} he => by
      rw [List.getElem?_take] at he
      split at he
      · rw [List.getElem?_drop] at he; exact ⟨he, by assumption⟩
      · cases he
    have hidx : ∀ i j, i < len → j < bk.n → (lo + i) * bk.n + j < bk.els.length * bk.n := fun i j hi hj => by
      calc (lo + i) * bk.n + j < (lo + i) * bk.n + bk.n := by omega
        _ = (lo + i + 1) * bk.n := by rw [Nat.add_mul (lo + i), Nat.one_mul]
        _ ≤ bk.els.length * bk.n := Nat.mul_le_mul_right _ (by omega)
    have hgoal : Rep g' (.sl false bk.n ((bk.els.drop lo).take len) .no) (.slice (some ⟨b', lo * bk.n, none⟩) ((bk.els.drop lo).take len).length cap) := by
      refine .sl bk.n _ .no ⟨b', lo * bk.n, none⟩ cap (fun i j => (w.cell? ⟨b', (lo + i) * bk.n + j, none⟩).getD Go.undef) rfl hrows (fun i j hi hj => ?_) (fun i j e c he hc2 => ?_) (by omega) trivial
      · rw [hel] at hi
        have hlt := hidx i j hi hj
        have hsome := ho.have_ ((lo + i) * bk.n + j) (by have := ho.fit; omega)
        obtain ⟨v, hv⟩ := Option.isSome_iff_exists.1 hsome
        rw [hv, Option.getD_some]
        show g'.fz b' (lo * bk.n + (i * bk.n + j)) = _
        rw [← Nat.add_assoc, ← Nat.add_mul, hheld _ hlt]
        exact hv
      · obtain ⟨he2, hi⟩ := hget he
        obtain ⟨v, hv, hrv⟩ := ho.cell (lo + i) j e c he2 hc2
        rw [hv, Option.getD_some]
        exact hrv.mono hle
    rw [hel] at hgoal
    exact hgoal
  · injection h with h; simp only [Prod.mk.injEq] at h; obtain ⟨rfl, rfl⟩ := h
    exact ⟨g, .refl hm, hr⟩
theorem snapL_sound {f : AV → St → Option (AV × St)} (hf : ∀ {g : G} {s s' : St} {x y : AV} {v : Value}, Mem g s w B → Rep g x v → f x s = some (y, s') → ∃ g', Snp g s s' w B g' ∧ Rep g' y v) :
    ∀ (l : List AV) (vs : List Value) (g : G) (s : St) (l' : List AV) (s' : St), Mem g s w B → Reps g l vs → snapL f l s = some (l', s') → ∃ g', Snp g s s' w B g' ∧ Reps g' l' vs := by
  intro l
  induction l with
  | nil =>
    intro vs g s l' s' hm hr h
    simp only [snapL, Option.some.injEq, Prod.mk.injEq] at h
    obtain ⟨rfl, rfl⟩ := h
    exact ⟨g, .refl hm, hr⟩
  | cons x l ih =>
    intro vs g s l' s' hm hr h
    simp only [snapL, Option.bind_eq_some_iff, Option.map_eq_some_iff] at h
    obtain ⟨⟨y, s1⟩, h1, ⟨l1, s2⟩, h2, h3⟩ := h
    simp only [Prod.mk.injEq] at h3
    obtain ⟨rfl, rfl⟩ := h3
    obtain ⟨v, vs', rfl, hv, hvs⟩ := hr.inv
    obtain ⟨g1, ⟨a1, a2, a3, a4⟩, b1⟩ := hf hm hv h1
    obtain ⟨g2, ⟨c1, c2, c3, c4⟩, d1⟩ := ih vs' g1 s1 l1 s2 a2 (hvs.mono a1) h2
    exact ⟨g2, ⟨a1.trans c1, c2, a3.trans c3, fun b o hb => (c4 b o hb).trans (a4 b o hb)⟩, .cons (b1.mono c1) d1⟩
theorem snap1_sound {g : G} {s s' : St} {x y : AV} {v : Value} (hm : Mem g s w B) (hr : Rep g x v) (h : snap1 x s = some (y, s')) : ∃ g', Snp g s s' w B g' ∧ Rep g' y v := by
  unfold snap1 at h
  split at h
  · rw [Option.map_eq_some_iff] at h
    obtain ⟨⟨l, s1⟩, h1, h2⟩ := h
    simp only [Prod.mk.injEq] at h2
    obtain ⟨rfl, rfl⟩ := h2
    obtain ⟨vs, rfl, hvs⟩ := hr.reps
    obtain ⟨g', a, b⟩ := snapL_sound (fun hm hr h => snap0_sound hm hr h) _ _ _ _ _ _ hm hvs h1
    exact ⟨g', a, b.agg⟩
  · exact snap0_sound hm hr h
theorem snap_sound {g : G} {s s' : St} {x y : AV} {v : Value} (hm : Mem g s w B) (hr : Rep g x v) (h : snap x s = some (y, s')) : ∃ g', Snp g s s' w B g' ∧ Rep g' y v := by
  unfold snap at h
  split at h
  · rw [Option.map_eq_some_iff] at h
    obtain ⟨⟨l, s1⟩, h1, h2⟩ := h
    simp only [Prod.mk.injEq] at h2
    obtain ⟨rfl, rfl⟩ := h2
    obtain ⟨vs, rfl, hvs⟩ := hr.repsT
    obtain ⟨g', a, b⟩ := snapL_sound (fun hm hr h => snap1_sound hm hr h) _ _ _ _ _ _ hm hvs h1
    exact ⟨g', a, b.tup⟩
  · exact snap1_sound hm hr h
mutual
theorem Rep.shed {g : G} : ∀ (x : AV) {v : Value}, Rep g x v → Rep g x.shed v
  | .agg cs, v, h => by
    obtain ⟨vs, rfl, hvs⟩ := h.reps
    unfold AV.shed
    exact (Reps.shed cs hvs).agg
  | .tup cs, v, h => by
    obtain ⟨vs, rfl, hvs⟩ := h.repsT
    unfold AV.shed
    exact (Reps.shed cs hvs).tup
  | .sl nil n els (.own k t), v, h => by
    unfold AV.shed
    cases h with
    | slNil => exact .slNil _ .no (fun k t e => by cases e)
    | sl _ _ _ a cap f hs hn h1 h2 hc ht => exact .sl _ _ .no a cap f hs hn h1 h2 hc trivial
  | .sl nil n els .full, v, h => h
  | .sl nil n els .no, v, h => h
  | .int _ _, v, h => h
  | .bool _, v, h => h
  | .str _, v, h => h
  | .val _, v, h => h
  | .hs .., v, h => h
  | .ep _, v, h => h
  | .pt .., v, h => h
  | .fn .., v, h => h
  | .ifc .., v, h => h
theorem Reps.shed {g : G} : ∀ (l : List AV) {vs : List Value}, Reps g l vs → Reps g (AV.shedL l) vs
  | [], vs, h => by unfold AV.shedL; exact h
  | x :: l, vs, h => by
    obtain ⟨v, vs', rfl, hv, hvs⟩ := h.inv
    unfold AV.shedL
    exact .cons (Rep.shed x hv) (Reps.shed l hvs)
end
end
end Go.Ev
