/-
  The operations on the call's own state are sound: together; no condition.
-/
import Derived.Test.YtjfpcgkgdajcfaaGreatDoorEvY
namespace Go.Ev
open Go Go.RowKit

section
variable {P : Program} {w : World} {g : G} {x : AV} {s : St} {a : Act} {B : Nat} {o : Oper}
/-- The frame is as it was. -/
structure Frm (s s' : St) : Prop where
  tm : s'.tm = s.tm
  kb : s'.kb = s.kb
  df : s'.df = s.df
theorem Frm.refl (s : St) : Frm s s := ⟨rfl, rfl, rfl⟩
theorem var_stp {d : Option Tmp} {z : AV} {v : Value} {acc : Acc} {s' : St} {t : TypeId} {m : Sem Value} (hm : Mem g s w B) (hz : Rep g z v) (h : var s d t z = some (x, acc, s')) (hrun : m.run P w = .ok (.pointer (some ⟨w.heap.size, 0, none⟩)) (w.alloc (.cells v.cells t)))
    (he : execOp a.eval o = (do pure (Next.value (← m)))) : Stp P o a g s' w B x ∧ Frm s s' := by
  obtain ⟨g', h1, h2, h3, h4, h5⟩ := var_sound (t := t) hm hz h
  refine ⟨⟨_, g', .inl ⟨_, ?_, h1⟩, h2, h3, h4, h5⟩, ?_⟩
  · rw [he, run_bind, hrun]; rfl
  · unfold var at h
    obtain ⟨_, h⟩ := bif_some h
    injection h with h
    simp only [Prod.mk.injEq] at h
    obtain ⟨_, _, rfl⟩ := h
    exact ⟨rfl, rfl, rfl⟩
theorem app_frm {mu : Bool} {acc : Acc} {ty : TypeId} {n k bs : Nat} {p y : AV} {s' : St} (h : app mu ty n bs k p y s = some (x, acc, s')) : Frm s s' := by
  unfold app at h
  split at h
  case h_3 => cases h
  case h_2 =>
    rw [Option.bind_eq_some_iff] at h
    obtain ⟨ds, _, h⟩ := h
    obtain ⟨_, h⟩ := cnd_some h
    cases hd : ds.isEmpty with
    | true =>
      rw [hd] at h; injection h with h; simp only [Prod.mk.injEq] at h; obtain ⟨_, _, rfl⟩ := h; exact .refl s
    | false =>
      rw [hd, cnd_false] at h
      unfold appH at h
      rw [Option.bind_eq_some_iff] at h
      obtain ⟨bk, _, h⟩ := h
      obtain ⟨_, h⟩ := cnd_some h
      obtain ⟨_, h⟩ := bif_some h
      injection h with h; simp only [Prod.mk.injEq] at h; obtain ⟨_, _, rfl⟩ := h; exact ⟨rfl, rfl, rfl⟩
  rename_i nil n' els tok
  rw [Option.bind_eq_some_iff] at h
  obtain ⟨ds, _, h⟩ := h
  obtain ⟨_, h⟩ := cnd_some h
  cases hd : (ds.isEmpty && isFree tok) with
  | true =>
    rw [hd] at h; injection h with h; simp only [Prod.mk.injEq] at h; obtain ⟨_, _, rfl⟩ := h; exact .refl s
  | false =>
    rw [hd, cnd_false] at h
    unfold appT at h
    split at h
    · cases mu with
      | true => rw [cond_true] at h; injection h with h; simp only [Prod.mk.injEq] at h; obtain ⟨_, _, rfl⟩ := h; exact ⟨rfl, rfl, rfl⟩
      | false => rw [cond_false] at h; injection h with h; simp only [Prod.mk.injEq] at h; obtain ⟨_, _, rfl⟩ := h; exact ⟨rfl, rfl, rfl⟩
    · obtain ⟨_, h⟩ := cnd_some h
      injection h with h; simp only [Prod.mk.injEq] at h; obtain ⟨_, _, rfl⟩ := h; exact ⟨rfl, rfl, rfl⟩
    · cases h
theorem appY_frm {mu : Bool} {acc : Acc} {ty : TypeId} {n k bs : Nat} {p y : AV} {s' : St} (h : appY mu ty n bs k p y s = some (x, acc, s')) : Frm s s' := by
  unfold appY at h
  split at h
  · rw [Option.bind_eq_some_iff] at h
    obtain ⟨b, _, h⟩ := h
    obtain ⟨_, h⟩ := cnd_some h
    obtain ⟨_, h⟩ := bif_some h
    rw [Option.map_eq_some_iff] at h
    obtain ⟨⟨v, a, s1⟩, h1, h⟩ := h
    simp only [Prod.mk.injEq] at h
    obtain ⟨_, _, rfl⟩ := h
    exact app_frm h1
  · exact app_frm h
theorem appY_sound {t t2 ty : TypeId} {n bs k : Nat} {ag : Bool} {p y : AV} {vp vy : Value} {s' : St} {mu : Bool} {acc : Acc} {ety : TypeId} (hety : elT P t = ety) (hm : Mem g s w B) (hx : Rep g p vp) (hy : Rep g y vy) (he : eli P t = some (ag, n)) (hbs : bytesOf P t = some bs) (h2 : notInt P t2 = true) (hz : zOk P t n = true) (hn : n ≠ 0)
    (h : appY mu ety n bs k p y s = some (x, acc, s')) :
    ∃ v w' g', (Builtin.append_ #[t, t2] ty #[vp, vy]).run P w = .ok v w' ∧ Rep g' x v ∧ g.le g' ∧ Mem g' s' w' B ∧ Below B w w' ∧ ∀ b o, b < B → g'.fz b o = g.fz b o := by
  unfold appY at h
  split at h
  · rename_i k' gg n' lo len full
    rw [Option.bind_eq_some_iff] at h
    obtain ⟨b, hb, h⟩ := h
    obtain ⟨h1, h⟩ := cnd_some h
    obtain ⟨h3, h⟩ := bif_some h
    rw [Bool.and_eq_true, beq_iff_eq, beq_iff_eq] at h3
    rw [Option.map_eq_some_iff] at h
    obtain ⟨⟨v, a, s1⟩, h4, h⟩ := h
    simp only [Prod.mk.injEq] at h
    obtain ⟨rfl, _, rfl⟩ := h
    obtain ⟨rfl, hbn⟩ := h3
    refine app_sound (p := (p, vp)) (vy := (_, vy)) hety hm hx (fun et ds hu hds => ?_) he hbs hz hn h4
    obtain ⟨et', hu', hty⟩ := eli_parts he
    rw [hu] at hu'; injection hu' with hu'; injection hu' with hu'; subst hu'
    refine Apn.of hu hty h2 ?_
    have : (b.els.drop lo).take len = ds := by
      have e : elemsOf n' (.sl false n' ((b.els.drop lo).take len) .no) = some ((b.els.drop lo).take len) := by
        unfold elemsOf
        simp
      simp only at hds
      rw [e] at hds; injection hds
    subst this
    exact Apd.row hm hy hb (of_decide_eq_true h1) hbn
  · refine app_sound (p := (p, vp)) (vy := (y, vy)) hety hm hx (fun et ds hu hds => ?_) he hbs hz hn h
    obtain ⟨et', hu', hty⟩ := eli_parts he
    rw [hu] at hu'; injection hu' with hu'; injection hu' with hu'; subst hu'
    exact Apn.of hu hty h2 (Apd.of hm.held hy hds)
theorem appZ_sound {t t2 ty : TypeId} {n bs k : Nat} {ag : Bool} {p y : AV} {vp vy : Value} {s' : St} {mu : Bool} {acc : Acc} (hm : Mem g s w B) (hx : Rep g p vp) (hy : Rep g y vy) (he : eli P t = some (ag, n)) (hbs : bytesOf P t = some bs) (h2 : isIntT P t2 = true) (hz : zOk P t n = true) (hn : n ≠ 0)
    (h : appZ P mu t n bs k p y s = some (x, acc, s')) :
    ∃ v w' g', (Builtin.append_ #[t, t2] ty #[vp, vy]).run P w = .ok v w' ∧ Rep g' x v ∧ g.le g' ∧ Mem g' s' w' B ∧ Below B w w' ∧ ∀ b o, b < B → g'.fz b o = g.fz b o := by
  unfold appZ at h
  split at h
  · rename_i kk m
    obtain ⟨hc, h⟩ := cnd_some h
    obtain ⟨hm0, hmb⟩ := of_decide_eq_true hc
    rw [Option.bind_eq_some_iff] at h
    obtain ⟨z, hz1, h⟩ := h
    obtain ⟨c, rfl⟩ := Int.eq_ofNat_of_zero_le hm0
    rw [Int.toNat_natCast] at hmb h
    obtain rfl := int_rep hy
    refine app_sound (p := (p, vp)) (vy := (_, _)) rfl hm hx (fun et ds hu hds => ?_) he hbs hz hn h
    obtain ⟨et', hu', hty⟩ := eli_parts he
    rw [hu] at hu'; injection hu' with hu'; injection hu' with hu'; subst hu'
    obtain ⟨et2, i, hu2, hi, hib⟩ := bytesOf_parts hbs
    rw [hu] at hu2; injection hu2 with hu2; injection hu2 with hu2; subst hu2
    obtain ⟨v0, hv0, rfl⟩ := zerE_parts hu hz1
    obtain ⟨k2, hk2⟩ := isIntT_parts h2
    have hrow : (AV.of v0).row n = true := by
      unfold zOk at hz
      rw [hz1] at hz
      exact hz
    have : List.replicate c (AV.of v0) = ds := by
      have e : elemsOf n (.sl false n (List.replicate c (AV.of v0)) .no) = some (List.replicate c (AV.of v0)) := by
        unfold elemsOf
        simp
      simp only at hds
      rw [e] at hds; injection hds
    subst this
    exact Apn.zeros hu hty hk2 hi hv0 hrow hn (by rw [hib]; exact hmb)
  · cases h
theorem appZ_frm {mu : Bool} {acc : Acc} {t : TypeId} {n bs k : Nat} {p y : AV} {s' : St} (h : appZ P mu t n bs k p y s = some (x, acc, s')) : Frm s s' := by
  unfold appZ at h
  split at h
  · obtain ⟨_, h⟩ := cnd_some h
    rw [Option.bind_eq_some_iff] at h
    obtain ⟨z, _, h⟩ := h
    exact app_frm h
  · cases h
theorem appN_frm {mu : Bool} {acc : Acc} {t t2 : TypeId} {n bs k : Nat} {p y : AV} {s' : St} (h : appN P mu t t2 n bs k p y s = some (x, acc, s')) : Frm s s' := by
  unfold appN at h
  cases hc : notInt P t2 with
  | true => rw [hc] at h; exact appY_frm h
  | false =>
    rw [hc, cond_false] at h
    obtain ⟨_, h⟩ := bif_some h
    exact appZ_frm h
theorem appN_sound {t t2 ty : TypeId} {n bs k : Nat} {ag : Bool} {p y : AV} {vp vy : Value} {s' : St} {mu : Bool} {acc : Acc} (hm : Mem g s w B) (hx : Rep g p vp) (hy : Rep g y vy) (he : eli P t = some (ag, n)) (hbs : bytesOf P t = some bs) (hz : zOk P t n = true) (hn : n ≠ 0)
    (h : appN P mu t t2 n bs k p y s = some (x, acc, s')) :
    ∃ v w' g', (Builtin.append_ #[t, t2] ty #[vp, vy]).run P w = .ok v w' ∧ Rep g' x v ∧ g.le g' ∧ Mem g' s' w' B ∧ Below B w w' ∧ ∀ b o, b < B → g'.fz b o = g.fz b o := by
  unfold appN at h
  cases hc : notInt P t2 with
  | true => rw [hc] at h; exact appY_sound rfl hm hx hy he hbs hc hz hn h
  | false =>
    rw [hc, cond_false] at h
    obtain ⟨h2, h⟩ := bif_some h
    exact appZ_sound hm hx hy he hbs h2 hz hn h
theorem appC_frm {mu : Bool} {acc : Acc} {k : Nat} {args : List AV} {ts : List TypeId} {s' : St} (h : appC P mu k args ts s = some (x, acc, s')) : Frm s s' := by
  unfold appC at h
  split at h
  · rename_i t t2
    simp only [Option.bind_eq_some_iff] at h
    obtain ⟨⟨ag, n⟩, _, bs, _, h⟩ := h
    simp only at h
    cases hcc : (n == 0 || !zOk P t n) with
    | true => rw [hcc] at h; cases h
    | false => rw [hcc] at h; exact appN_frm h
  · cases h
theorem arrEls_get {ag : Bool} {n o : Nat} {cells : List AV} : ∀ (c l : Nat) (els : List AV), arrEls ag n o cells l c = some els → els.length = c ∧ ∀ (j : Nat) (e : AV), els[j]? = some e → prt ag (o + (l + j) * n) n cells = some e ∧ e.row n = true := by
  intro c
  induction c with
  | zero =>
    intro l els h
    simp only [arrEls, Option.some.injEq] at h
    subst h
    exact ⟨rfl, fun j e he => by simp at he⟩
  | succ c ih =>
    intro l els h
    simp only [arrEls, Option.bind_eq_some_iff] at h
    obtain ⟨e0, h0, h⟩ := h
    obtain ⟨hr, h⟩ := cnd_some h
    rw [Option.map_eq_some_iff] at h
    obtain ⟨r, h1, rfl⟩ := h
    obtain ⟨i1, i2⟩ := ih (l + 1) r h1
    refine ⟨by simp [i1], fun j e he => ?_⟩
    cases j with
    | zero => simp at he; subst he; exact ⟨h0, hr⟩
    | succ j =>
      rw [List.getElem?_cons_succ] at he
      have := i2 j e he
      rw [show l + 1 + j = l + (j + 1) by omega] at this
      exact this
/-- The cells of a part. -/
theorem prt_cell {ag : Bool} {off n : Nat} {cs : List AV} {e c : AV} {q : Nat} (hcs : cs.all AV.isCell = true) (h : prt ag off n cs = some e) (hr : e.row n = true) (hc : e.cells[q]? = some c) : cs[off + q]? = some c ∧ q < n := by
  have hl := (AV.row_iff.1 hr).1
  have hq : q < n := by have := (List.getElem?_eq_some_iff.1 hc).1; omega
  refine ⟨?_, hq⟩
  cases ag with
  | true =>
    obtain ⟨_, rfl⟩ := prt_true h
    simp only [AV.cells] at hc
    rw [List.getElem?_take, if_pos hq, List.getElem?_drop] at hc
    exact hc
  | false =>
    have h := prt_false h
    cases e with
    | agg cs' =>
      have := List.all_eq_true.1 hcs _ (List.mem_of_getElem? h)
      cases this
    | _ =>
      simp only [AV.cells] at hc
      cases q with
      | zero => simp at hc; subst hc; exact h
      | succ q => simp at hc
theorem evE_sound {mu : Bool} {acc : Acc} {s' : St} (hm : Mem g s w B) (ht : Tms g s a) (h : evE P mu o.dst s.at s o.op = some (x, acc, s')) : Stp P o a g s' w B x ∧ Frm s s' := by
  revert h
  generalize hop : o.op = op
  intro h
  cases op <;> first | (cases h; done) | skip
  case alloc e =>
    simp only [evE, Option.bind_eq_some_iff] at h
    obtain ⟨z, hz, h⟩ := h
    obtain ⟨v, hv, rfl⟩ := run_zero (w := w) hz
    refine var_stp (t := e) (m := Instr.alloc e true (.tuple #[])) hm (Rep.of g v) h ?_ (by unfold execOp; rw [hop])
    unfold Instr.alloc
    rw [run_bind, hv]
    rfl
  case box e y =>
    simp only [evE] at h
    refine var_stp (t := e) (m := Instr.box e (a.eval y)) hm (ht.at y) h ?_ (by unfold execOp; rw [hop])
    unfold Instr.box
    rfl
  case load t y =>
    simp only [evE] at h
    have hy := ht.at y
    split at h
    · rename_i kk tt i oo hl
      rw [hl] at hy
      simp only [Option.bind_eq_some_iff, Option.map_eq_some_iff] at h
      obtain ⟨bk, hbk, e, he, ⟨ag, n⟩, hty, y2, hx, h⟩ := h
      simp only [Prod.mk.injEq] at h
      obtain ⟨rfl, _, rfl⟩ := h
      obtain ⟨h1, _, h3⟩ := blk_parts hbk
      obtain ⟨b, lim, ho⟩ := hm.blks bk h1
      exact ⟨Stp.of hm (y_load_pt ho h3 hy he hty hx) (by unfold execOp; rw [hop]), .refl s⟩
    · cases h
  case store t y z =>
    simp only [evE] at h
    have hy := ht.at y
    split at h
    · rename_i kk tt i oo hl
      rw [hl] at hy
      simp only [Option.bind_eq_some_iff] at h
      obtain ⟨bk, hbk, e, he, ⟨ag, n⟩, hty, h⟩ := h
      obtain ⟨hc, h⟩ := bif_some h
      injection h with h
      simp only [Prod.mk.injEq] at h
      obtain ⟨rfl, _, rfl⟩ := h
      simp only [Bool.and_eq_true] at hc
      obtain ⟨⟨⟨h1, h2⟩, h3⟩, h4⟩ := hc
      obtain ⟨w', r1, r2, r3⟩ := store_sound hm hy (ht.at z) hbk he hty h1 (Nat.le_of_ble_eq_true h2) (by simpa using h3) (by simpa using h4)
      refine ⟨⟨w', g, .inr ⟨?_, rfl⟩, .refl g, r2, r3, fun _ _ _ => rfl⟩, rfl, rfl, rfl⟩
      unfold execOp; rw [hop]
      simp only
      rw [run_bind, r1]
      rfl
    · cases h
  case slice t y lo hi mx =>
    simp only [evE] at h
    have hy := ht.at y
    split at h
    · rename_i kk tt i oo hl
      rw [hl] at hy
      simp only [Option.bind_eq_some_iff] at h
      obtain ⟨⟨len, ag, n⟩, har, bk, hbk, h⟩ := h
      obtain ⟨hmx, h⟩ := bif_some h
      rw [Option.bind_eq_some_iff] at h
      obtain ⟨⟨l, hh⟩, hb, h⟩ := h
      unfold slcArr at h
      simp only [Option.bind_eq_some_iff, Option.map_eq_some_iff] at h
      obtain ⟨e, he, els, hels, h⟩ := h
      simp only [Prod.mk.injEq] at h
      obtain ⟨rfl, _, rfl⟩ := h
      have hmn : mx = none := by cases mx <;> simp_all
      subst hmn
      obtain ⟨et, hu, hty⟩ := ari_parts har
      obtain ⟨li, hj, h1, h2, hbd, rfl, rfl⟩ := bounds_parts hb
      obtain ⟨h5, _, h6⟩ := blk_parts hbk
      obtain ⟨b, lim, ho⟩ := hm.blks bk h5
      obtain ⟨g', hle, hm', hheld, hsame⟩ := hm.frz hbk ho
      have hq1 := ht.opt lo
      have hq2 := ht.opt hi
      have hex : execOp a.eval o = (do pure (Next.value (← Instr.sliceAt t (a.eval y) (lo.map a.eval) (hi.map a.eval) none))) := by unfold execOp; rw [hop]; rfl
      revert hex hy
      generalize a.eval y = z
      intro hy hex
      cases hy with
      | pt _ _ _ _ b' n' lim' hη =>
      have h7 := ho.eta
      rw [h6, hη] at h7; injection h7 with h7; simp only [Prod.mk.injEq] at h7; obtain ⟨rfl, rfl, rfl⟩ := h7
      have hrun : (Instr.sliceAt t (.pointer (some ⟨b', i * bk.n + oo, none⟩)) (lo.map a.eval) (hi.map a.eval) none).run P w = .ok (.slice (some (if len = li.toNat then ⟨b', i * bk.n + oo, none⟩ else Addr.add ⟨b', i * bk.n + oo, none⟩ (li.toNat * n))) (hj.toNat - li.toNat) (len - li.toNat)) w := by
        unfold Instr.sliceAt
        rw [run_bind, run_underlying hu]
        simp only
        rw [run_bind]
        simp only [Instr.sureAddr, run_pure]
        rw [run_bind, run_bounds (hq1.idx h1) (hq2.idx h2) hbd (Nat.le_refl _)]
        simp only
        rw [run_bind, run_sizeOf hty]
        rfl
      obtain ⟨hlen, hget⟩ := arrEls_get _ _ _ hels
      have hecs := (AV.row_iff.1 (ho.rows e (List.mem_of_getElem? he))).2
      have hecl := (AV.row_iff.1 (ho.rows e (List.mem_of_getElem? he))).1
      have hilt := (List.getElem?_eq_some_iff.1 he).1
      have hin : i * bk.n + bk.n ≤ bk.els.length * bk.n := by
        calc i * bk.n + bk.n = (i + 1) * bk.n := by rw [Nat.add_mul, Nat.one_mul]
          _ ≤ bk.els.length * bk.n := Nat.mul_le_mul_right _ hilt
      have hrep : Rep g' (.sl false n els (bif hj.toNat == len then .full else .no)) (.slice (some (if len = li.toNat then ⟨b', i * bk.n + oo, none⟩ else Addr.add ⟨b', i * bk.n + oo, none⟩ (li.toNat * n))) els.length (len - li.toNat)) := by
        have hfit : ∀ A : Addr, (bif hj.toNat == len then Tok.full else Tok.no).fits g' A n els.length (len - li.toNat) := fun A => by
          cases hc : hj.toNat == len with
          | true =>
            have : hj.toNat = len := by simpa using hc
            simp only [cond_true, Tok.fits]; omega
          | false => trivial
        by_cases hll : len = li.toNat
        · rw [if_pos hll]
          have : els = [] := List.eq_nil_of_length_eq_zero (by omega)
          subst this
          exact .sl n _ _ _ _ (fun _ _ => Go.undef) rfl (fun e he => by cases he) (fun i j hi => by simp at hi) (fun i j e c he => by simp at he) (by simp) (hfit _)
        · rw [if_neg hll, add_addr _ rfl]
          refine .sl n _ _ _ _ (fun p q => (w.cell? ⟨b', i * bk.n + (oo + (li.toNat + p) * n + q), none⟩).getD Go.undef) rfl (fun e2 he2 => ?_) (fun p q hp hq => ?_) (fun p q e2 c he2 hc2 => ?_) (by omega) (hfit _)
          · obtain ⟨p, hp⟩ := List.mem_iff_getElem?.1 he2
            exact (hget p e2 hp).2
          · obtain ⟨g1, g2⟩ := hget p _ (List.getElem?_eq_getElem hp)
            have hcl := (AV.row_iff.1 g2).1
            obtain ⟨g3, _⟩ := prt_cell hecs g1 g2 (List.getElem?_eq_getElem (show q < _ by omega))
            obtain ⟨v, hv, _⟩ := ho.cell i _ e _ he g3
            have hlt := (List.getElem?_eq_some_iff.1 g3).1
            rw [hv, Option.getD_some]
            show g'.fz b' (i * bk.n + oo + li.toNat * n + (p * n + q)) = _
            rw [show i * bk.n + oo + li.toNat * n + (p * n + q) = i * bk.n + (oo + (li.toNat + p) * n + q) by rw [Nat.add_mul]; omega, hheld _ (by omega)]
            exact hv
          · obtain ⟨g1, g2⟩ := hget p e2 he2
            obtain ⟨g3, _⟩ := prt_cell hecs g1 g2 hc2
            obtain ⟨v, hv, hrv⟩ := ho.cell i _ e _ he g3
            rw [hv, Option.getD_some]
            exact hrv.mono hle
      rw [hlen] at hrep
      refine ⟨⟨w, g', .inl ⟨_, ?_, hrep⟩, hle, hm', .refl B w, hsame⟩, rfl, rfl, rfl⟩
      rw [hex, run_bind, hrun]; rfl
    · cases h
  case convert p q y =>
    simp only [evE] at h
    have hy := ht.at y
    split at h
    · rename_i l hk hl
      rw [hl] at hy
      injection h with h
      simp only [Prod.mk.injEq] at h
      obtain ⟨rfl, _, rfl⟩ := h
      obtain ⟨e, h1, h2, h3⟩ := convK_toBytes hk
      obtain ⟨b, hb, rfl⟩ := str_rep hy
      obtain ⟨vs, cap, w', r1, r2, r3, r4, r5, r6, r7, r9, r8⟩ := toBytes_run (P := P) (w := w) (g := g) (e := e) (b := b)
      have hlen : (ofBytes b.data.toList).length = b.size := by unfold ofBytes; simp
      obtain ⟨g', q1, q2, q3, q4, q5⟩ := fresh_tok (k := s.kb + o.dst.getD 0) (n := 1) (cap := cap) (els := ofBytes b.data.toList) (ty := elT P q) (s' := newTk s (s.kb + o.dst.getD 0) (ofBytes b.data.toList).length (elT P q)) hm r2 r3 r4 (fun o ho => r5 o (by omega)) (ofBytes_rows _) (by rw [flat_ofBytes, hlen, Nat.mul_one]; exact r8) (by omega) (by omega) (by rw [show elT P q = e by unfold elT; rw [h2]]; exact r9) rfl rfl (by rw [hlen, ← size_data]; rfl)
      rw [hlen] at q1
      refine ⟨⟨w', g', .inl ⟨_, ?_, q1⟩, q2, q3, q4, q5⟩, rfl, rfl, rfl⟩
      unfold execOp; rw [hop]
      simp only
      rw [run_bind]
      have : (convert p q (a.eval y)).run P w = .ok (.slice (some ⟨w.heap.size, 0, none⟩) b.size cap) w' := by
        rw [hb]
        unfold convert
        rw [run_bind, run_underlying h1]
        simp only
        rw [run_bind, run_underlying h2]
        simp only
        rw [run_bind, run_underlying h3]
        exact r1
      rw [this]
      rfl
    · cases h
  case makeSlice t l c =>
    simp only [evE] at h
    have hl := ht.at l
    have hc := ht.at c
    split at h
    · rename_i k1 ln k2 cn e1 e2
      rw [e1] at hl; rw [e2] at hc
      have hl := int_rep hl
      have hc := int_rep hc
      simp only [Option.bind_eq_some_iff] at h
      obtain ⟨⟨ag, n⟩, he, bs, hbs, z, hz, h⟩ := h
      obtain ⟨hr, h⟩ := bif_some h
      obtain ⟨hb, h⟩ := cnd_some h
      rw [Bool.and_eq_true] at hr
      have hb : 0 ≤ ln ∧ ln ≤ cn ∧ cn.toNat * (bs + 1) ≤ 2 ^ 40 := by simpa using hb
      have hn : n ≠ 0 := by simpa using hr.2
      obtain ⟨vs, et, r1, r4, r2, r3⟩ := makeSlice_run (P := P) (w := w) (g := g) (k := k1) (k' := k2) he hbs hz hr.1 hn hb
      have hex : execOp a.eval o = (do pure (Next.value (← Instr.makeSlice t (.int k1 ln) (.int k2 cn)))) := by
        unfold execOp; rw [hop]; simp only [hl, hc]
      have hgb := World.grownBy_alloc w (.cells vs et) none
      have hshp : (w.alloc (.cells vs et)).shape? w.heap.size = some (elT P t, vs.size) := by rw [show elT P t = et by unfold elT; rw [r4]]; exact shape_new w vs et
      cases mu with
      | true =>
        rw [cond_true] at h
        injection h with h
        simp only [Prod.mk.injEq] at h
        obtain ⟨rfl, _, rfl⟩ := h
        obtain ⟨g', q1, q2, q3, q4, q5⟩ := fresh_row (k := s.kb + o.dst.getD 0) (ty := elT P t) (n := n) (cap := cn.toNat) (els := List.replicate ln.toNat z) (full := decide (cn = ln)) (w' := w.alloc (.cells vs et)) hm hgb (by simp) (fun o => cell_new w vs et (0, 0) o) (fun o _ => frozen_new w vs et o) (replicate_rows hr.1) (by rw [List.length_replicate]; exact r3) (by rw [List.length_replicate]; omega) r2 hshp (by omega) (fun hf => by rw [List.length_replicate, of_decide_eq_true hf])
        rw [List.length_replicate] at q1
        refine ⟨⟨_, g', .inl ⟨_, ?_, q1⟩, q2, q3, q4, q5⟩, rfl, rfl, rfl⟩
        rw [hex, run_bind, r1]; rfl
      | false =>
        rw [cond_false] at h
        injection h with h
        simp only [Prod.mk.injEq] at h
        obtain ⟨rfl, _, rfl⟩ := h
        obtain ⟨g', q1, q2, q3, q4, q5⟩ := fresh_tok (k := s.kb + o.dst.getD 0) (n := n) (cap := cn.toNat) (els := List.replicate ln.toNat z) (ty := elT P t) (s' := newTk s (s.kb + o.dst.getD 0) ln.toNat (elT P t)) (w' := w.alloc (.cells vs et)) hm hgb (by simp) (fun o => cell_new w vs et (0, 0) o) (fun o _ => frozen_new w vs et o) (replicate_rows hr.1) (by rw [List.length_replicate]; exact r3) (by rw [List.length_replicate]; omega) r2 hshp rfl rfl (by rw [List.length_replicate]; rfl)
        rw [List.length_replicate] at q1
        refine ⟨⟨_, g', .inl ⟨_, ?_, q1⟩, q2, q3, q4, q5⟩, rfl, rfl, rfl⟩
        rw [hex, run_bind, r1]; rfl
    · cases h
  case call c =>
    simp only [evE] at h
    split at h
    · rename_i hb
      have hl2 : Reps g (c.args.toList.map s.at) (c.args.map a.eval).toList := by simpa using ht.list c.args.toList
      have he : execOp a.eval o = (do pure (Next.value (← Builtin.append_ c.argTypes o.type (c.args.map a.eval)))) := by
        unfold execOp; rw [hop]; simp only
        unfold resolve; rw [hb]
        rfl
      revert h hl2
      generalize c.args.toList.map s.at = args
      intro h hl2
      unfold appC at h
      split at h
      · rename_i p y t t2 hts
        simp only [Option.bind_eq_some_iff] at h
        obtain ⟨⟨ag, n⟩, hel, bs, hbs, h⟩ := h
        cases hcc : (n == 0 || !zOk P t n) with
        | true => simp only [hcc, cond_true] at h; cases h
        | false =>
          simp only [hcc, cond_false] at h
          have ha := h
          simp only [Bool.or_eq_false_iff, Bool.not_eq_false'] at hcc
          obtain ⟨hn, hzo⟩ := hcc
          obtain ⟨vp, r1, hz1, hp, hr1⟩ := hl2.inv
          obtain ⟨vy, r2, rfl, hy, hr2⟩ := hr1.inv
          obtain rfl := hr2.inv0
          obtain ⟨v, w', g', q1, q2, q3, q4, q5, q6⟩ := appN_sound (P := P) (ty := o.type) (t2 := t2) hm hp hy hel hbs hzo (by simpa using hn) ha
          refine ⟨⟨w', g', .inl ⟨v, ?_, q2⟩, q3, q4, q5, q6⟩, appN_frm ha⟩
          have ets : c.argTypes = #[t, t2] := by
            apply Array.ext'; exact hts
          have eargs : c.args.map a.eval = #[vp, vy] := by
            apply Array.ext'; exact hz1
          rw [he, run_bind, ets, eargs, q1]
          rfl
      · cases h
    · cases h
/-- An operation that calls nobody. -/
theorem evV_sound {mu : Bool} {acc : Acc} {s' : St} (hm : Mem g s w B) (ht : Tms g s a) (h : evV P mu o.dst s.at s o.op = some (x, acc, s')) : Stp P o a g s' w B x ∧ Frm s s' := by
  unfold evV at h
  cases hc : isE P s.at o.op with
  | true => rw [hc] at h; exact evE_sound hm ht h
  | false =>
    rw [hc, cnd_false, Option.map_eq_some_iff] at h
    obtain ⟨y, hy, h⟩ := h
    unfold noE at h
    simp only [Prod.mk.injEq] at h
    obtain ⟨rfl, _, rfl⟩ := h
    exact ⟨evP_sound hm ht hy, .refl s⟩
end
end Go.Ev
