/-
  Contracts of the library's functions, over the plain evaluator: strings.Builder's copy check; no condition but what each says.
-/
import Derived.Test.YtjfpcgkgdajcfaaGreatDoorEvK
namespace Go.Ev
open Go Go.RowKit

section
variable {P : Program} {w : World} {g : G} {s : St} {B : Nat}
/-- (*strings.Builder).copyCheck, at a variable of type T of two cells: it lays the variable's own address into the first. -/
def copyX (T : TypeId) : List AV → St → Option (AV × St)
  | [.pt k g 0 0], s => (s.blk k g).bind fun b => match b.els with
    | [.agg (c0 :: rest)] => bif b.ty == T && (b.va && (b.n == 2 && !b.fz)) then (match c0 with
      | .val (.pointer none) => some (.tup [], s.setEls k g [.agg (.pt k g 0 0 :: rest)])
      | .pt k' g' 0 0 => bif k' == k && g' == g then some (.tup [], s) else none
      | _ => none) else none
    | _ => none
  | _, _ => none
theorem copyX_ok {f : FuncId} {T : TypeId}
    (hfresh : ∀ (b : Nat) (w : World), w.cell? ⟨b, 0, none⟩ = some (.pointer none) → w.shape? b = some (T, 2) → w.frozen? ⟨b, 0, none⟩ = false → Calls P f #[.pointer (some ⟨b, 0, none⟩)] w fun e w' => e = .returned (.tuple #[]) ∧ w' = w.setCell ⟨b, 0, none⟩ (.pointer (some ⟨b, 0, none⟩)))
    (hused : ∀ (b : Nat) (w : World), w.cell? ⟨b, 0, none⟩ = some (.pointer (some ⟨b, 0, none⟩)) → Calls P f #[.pointer (some ⟨b, 0, none⟩)] w fun e w' => e = .returned (.tuple #[]) ∧ w' = w)
    {args : List AV} {x : AV} {s' : St} {vals : Array Value} (h : copyX T args s = some (x, s')) (hm : Mem g s w B) (ha : Reps g args vals.toList) :
    Calls P f vals w fun e w' => ∃ g', Nxt g w B g' w' ∧ Mem g' s' w' B ∧ EndR g' (.ret x) e := by
  unfold copyX at h
  split at h
  case h_2 => cases h
  rename_i k gg
  rw [Option.bind_eq_some_iff] at h
  obtain ⟨bk, hbk, h⟩ := h
  split at h
  case h_2 => cases h
  rename_i c0 rest hels
  obtain ⟨hc, h⟩ := bif_some h
  simp only [Bool.and_eq_true, beq_iff_eq, Bool.not_eq_true'] at hc
  obtain ⟨hty, hva, hn, hz⟩ := hc
  obtain ⟨hb, hk, hg⟩ := blk_parts hbk
  obtain ⟨b, lim, ho⟩ := hm.blks bk hb
  have hlim : lim = 2 := by rw [ho.whole hva, hn]
  subst hlim
  obtain ⟨v, vs, hv1, hv2, hv3⟩ := ha.inv
  obtain rfl := hv3.inv0
  have hvals : vals = #[v] := by apply Array.ext'; exact hv1
  subst hvals
  cases hv2 with
  | pt _ _ _ _ b' n' lim' hη =>
  have h7 := ho.eta
  rw [hg, hη] at h7; injection h7 with h7; simp only [Prod.mk.injEq] at h7; obtain ⟨rfl, rfl, rfl⟩ := h7
  rw [Nat.zero_mul, Nat.add_zero]
  have hrow := ho.rows (.agg (c0 :: rest)) (by rw [hels]; exact List.mem_cons_self)
  obtain ⟨hrl, hrc⟩ := AV.row_iff.1 hrow
  simp only [AV.cells] at hrl hrc
  obtain ⟨v0, hcell0, hrep0⟩ := ho.cell 0 0 (.agg (c0 :: rest)) c0 (by rw [hels]; rfl) rfl
  rw [Nat.zero_mul, Nat.add_zero] at hcell0
  have hundef : Rep g (.tup []) (.tuple #[]) := Rep.undef g
  split at h
  · injection h with h
    simp only [Prod.mk.injEq] at h
    obtain ⟨rfl, rfl⟩ := h
    have : v0 = .pointer none := by cases hrep0; rfl
    subst this
    refine (hfresh b' w hcell0 (by rw [ho.shp, hty]) (ho.free 0 (by omega))).mono fun e w' hp => ?_
    obtain ⟨rfl, rfl⟩ := hp
    have hsome : (w.cell? ⟨b', 0, none⟩).isSome = true := by rw [hcell0]; rfl
    have hgr := setCell_grown w b' 0 (.pointer (some ⟨b', 0, none⟩))
    refine ⟨g, ⟨.refl g, (Below.refl B w).grown hgr hm.base (fun k hk => by injection hk with hk; subst hk; exact ho.base), fun _ _ _ => rfl⟩, ?_, hundef⟩
    subst hk; subst hg
    refine hm.upd hb ho hz hgr {
      eta := ho.eta
      base := ho.base
      size := Nat.lt_of_lt_of_le ho.size hgr.size
      pos := ho.pos
      fit := by have := ho.fit; rw [hels] at this; exact this
      rows := fun e he => by
        simp only [List.mem_singleton] at he
        subst he
        refine AV.row_iff.2 ⟨hrl, ?_⟩
        simp only [AV.cells, List.all_cons, Bool.and_eq_true] at hrc ⊢
        exact ⟨rfl, hrc.2⟩
      have_ := fun o h => by
        rw [cell_setCell _ _ _ _ _ hsome]
        split
        · rfl
        · exact ho.have_ o h
      free := fun o h => by rw [frozen_setCell]; exact ho.free o h
      cell := fun i j e c he hc => by
        show ∃ v', (w.setCell ⟨b', 0, none⟩ _).cell? ⟨b', i * bk.n + j, none⟩ = some v' ∧ Rep g c v'
        rw [cell_setCell _ _ _ _ _ hsome]
        cases i with
        | succ i => simp at he
        | zero =>
          simp only [List.getElem?_cons_zero, Option.some.injEq] at he
          subst he
          rw [Nat.zero_mul, Nat.zero_add]
          cases j with
          | zero =>
            simp only [AV.cells, List.getElem?_cons_zero, Option.some.injEq] at hc
            subst hc
            refine ⟨_, rfl, ?_⟩
            have := Rep.pt (g := g) bk.k bk.g 0 0 b' bk.n 2 ho.eta
            simpa using this
          | succ j =>
            rw [if_neg (by omega)]
            have := ho.cell 0 (j + 1) (.agg (.val (.pointer none) :: rest)) c (by rw [hels]; rfl) hc
            rw [Nat.zero_mul, Nat.zero_add] at this
            exact this
      shp := by rw [shape_setCell]; exact ho.shp
      whole := ho.whole
      live := ho.live
      held := fun h => by rw [hz] at h; cases h }
  · rename_i k' g'
    obtain ⟨hc, h⟩ := bif_some h
    injection h with h
    simp only [Prod.mk.injEq] at h
    obtain ⟨rfl, rfl⟩ := h
    simp only [Bool.and_eq_true, beq_iff_eq] at hc
    obtain ⟨rfl, rfl⟩ := hc
    have : v0 = .pointer (some ⟨b', 0, none⟩) := by
      cases hrep0 with
      | pt _ _ _ _ b2 n2 lim2 hη2 =>
        rw [hη] at hη2; injection hη2 with hη2; simp only [Prod.mk.injEq] at hη2
        obtain ⟨rfl, _, _⟩ := hη2
        simp
    subst this
    refine (hused b' w hcell0).mono fun e w' hp => ?_
    obtain ⟨rfl, rfl⟩ := hp
    exact ⟨g, .refl g _ B, hm, hundef⟩
  · cases h
/-- Cells that hold bytes. -/
def bytesX : List AV → Option (List UInt8)
  | [] => some []
  | .int .u8 n :: l => cnd (decide (0 ≤ n ∧ n < 256)) ((bytesX l).map (UInt8.ofNat n.toNat :: ·)) none
  | _ => none
theorem bytesX_get : ∀ (els : List AV) (l : List UInt8), bytesX els = some l → els.length = l.length ∧ ∀ (i : Nat) (x : UInt8), l[i]? = some x → els[i]? = some (.int .u8 x.toNat) := by
  intro els
  induction els with
  | nil => intro l h; simp only [bytesX, Option.some.injEq] at h; subst h; exact ⟨rfl, fun i x hx => by simp at hx⟩
  | cons e els ih =>
    intro l h
    unfold bytesX at h
    split at h
    · rename_i h1; cases h1
    · rename_i n r h1
      injection h1 with h1 h2
      subst h1; subst h2
      obtain ⟨hd, h⟩ := cnd_some h
      have hd := of_decide_eq_true hd
      rw [Option.map_eq_some_iff] at h
      obtain ⟨l', hl, rfl⟩ := h
      obtain ⟨a1, a2⟩ := ih l' hl
      refine ⟨by simp [a1], fun i x hx => ?_⟩
      cases i with
      | zero =>
        simp only [List.getElem?_cons_zero, Option.some.injEq] at hx ⊢
        subst hx
        have : (UInt8.ofNat n.toNat).toNat = n.toNat := by
          rw [UInt8.toNat_ofNat']; omega
        rw [this, Int.toNat_of_nonneg hd.1]
      | succ i => rw [List.getElem?_cons_succ] at hx ⊢; exact a2 i x hx
    · cases h
/-- (*strings.Builder).String: what the builder holds; it is written no more. e: the type of bytes. -/
def stringX (e : TypeId) : List AV → St → Option (AV × St)
  | [.pt k g 0 0], s => (s.blk k g).bind fun b => match b.els with
    | [.agg [_, .sl true _ [] .full]] => some (.str [], s)
    | [.agg [_, .sl _ 1 els (.own k' g')]] => bif hasTk k' g' els.length e s.lv && (!els.isEmpty && decide (els.length < 2 ^ 62)) then (bytesX els).map fun l => (.str l, { s with lv := s.lv.filter fun q => !(q.1 == k') }) else none
    | _ => none
  | _, _ => none
theorem cell_freeze (w : World) (b n o : Nat) (a : Addr) : (w.freeze ⟨b, o, none⟩ n).cell? a = w.cell? a := by
  unfold World.freeze
  split
  · rfl
  · unfold World.cell?
    simp only [Array.getElem?_modify]
    by_cases hb : b = a.block
    · rw [if_pos hb]
      cases w.heap[a.block]? with
      | none => rfl
      | some ob => cases ob <;> rfl
    · rw [if_neg hb]
theorem freeze_grown (w : World) (b n o : Nat) : w.grownBy (w.freeze ⟨b, o, none⟩ n) (some b) := by
  unfold World.freeze
  split
  · exact ⟨rfl, rfl, rfl, Nat.le_refl _, fun _ _ _ => rfl⟩
  · refine ⟨rfl, rfl, rfl, by simp, fun k _ hne => ?_⟩
    simp only [Array.getElem?_modify]
    rw [if_neg (fun q => hne (by rw [q]))]
theorem stringX_ok {f : FuncId} {e : TypeId}
    (hnil : ∀ (b : Nat) (w : World), w.cell? ⟨b, 1, none⟩ = some (.slice none 0 0) → Calls P f #[.pointer (some ⟨b, 0, none⟩)] w fun r w' => r = .returned (.string ⟨#[]⟩) ∧ w' = w.drew)
    (hrow : ∀ (b q cap : Nat) (l : List UInt8) (w : World), l ≠ [] → l.length ≤ cap → l.length < 2 ^ 62 → w.cell? ⟨b, 1, none⟩ = some (.slice (some ⟨q, 0, none⟩) l.length cap) → w.shape? q = some (e, cap) → (∀ (j : Nat) (x : UInt8), l[j]? = some x → w.cell? ⟨q, j, none⟩ = some (.int .u8 x.toNat)) →
      Calls P f #[.pointer (some ⟨b, 0, none⟩)] w fun r w' => r = .returned (.string ⟨l.toArray⟩) ∧ w' = w.drew.freeze ⟨q, 0, none⟩ l.length)
    {args : List AV} {x : AV} {s' : St} {vals : Array Value} (h : stringX e args s = some (x, s')) (hm : Mem g s w B) (ha : Reps g args vals.toList) :
    Calls P f vals w fun e w' => ∃ g', Nxt g w B g' w' ∧ Mem g' s' w' B ∧ EndR g' (.ret x) e := by
  unfold stringX at h
  split at h
  case h_2 => cases h
  rename_i k gg
  rw [Option.bind_eq_some_iff] at h
  obtain ⟨bk, hbk, h⟩ := h
  obtain ⟨hb, hk, hg⟩ := blk_parts hbk
  obtain ⟨b, lim, ho⟩ := hm.blks bk hb
  obtain ⟨v, vs, hv1, hv2, hv3⟩ := ha.inv
  obtain rfl := hv3.inv0
  have hvals : vals = #[v] := by apply Array.ext'; exact hv1
  subst hvals
  cases hv2 with
  | pt _ _ _ _ b' n' lim' hη =>
  have h7 := ho.eta
  rw [hg, hη] at h7; injection h7 with h7; simp only [Prod.mk.injEq] at h7; obtain ⟨rfl, rfl, rfl⟩ := h7
  rw [Nat.zero_mul, Nat.add_zero]
  have hdn : Nxt g w B g w.drew := ⟨.refl g, (Below.refl B w).grown (row := none) ⟨rfl, rfl, rfl, Nat.le_refl _, fun _ _ _ => rfl⟩ hm.base (fun k hk => by cases hk), fun _ _ _ => rfl⟩
  have hone : ∀ (c0 c1 : AV), bk.els = [.agg [c0, c1]] → ∃ v1, w.cell? ⟨b', 1, none⟩ = some v1 ∧ Rep g c1 v1 := fun c0 c1 hels => by
    have hrl := (AV.row_iff.1 (ho.rows (.agg [c0, c1]) (by rw [hels]; exact List.mem_cons_self))).1
    obtain ⟨v1, h1, h2⟩ := ho.cell 0 1 (.agg [c0, c1]) c1 (by rw [hels]; rfl) rfl
    rw [Nat.zero_mul, Nat.zero_add] at h1
    exact ⟨v1, h1, h2⟩
  split at h
  · rename_i c0 n0 hels
    injection h with h
    simp only [Prod.mk.injEq] at h
    obtain ⟨rfl, rfl⟩ := h
    obtain ⟨v1, h1, h2⟩ := hone _ _ hels
    have : v1 = .slice none 0 0 := by cases h2; rfl
    subst this
    refine (hnil b' w h1).mono fun r w' hp => ?_
    obtain ⟨rfl, rfl⟩ := hp
    exact ⟨g, hdn, hm.drew, .str _ _ rfl⟩
  · rename_i c0 nl els k' tt hels
    obtain ⟨hc, h⟩ := bif_some h
    simp only [Bool.and_eq_true, Bool.not_eq_true', decide_eq_true_eq] at hc
    obtain ⟨htk, hne, hlt⟩ := hc
    rw [Option.map_eq_some_iff] at h
    obtain ⟨l, hl, h⟩ := h
    simp only [Prod.mk.injEq] at h
    obtain ⟨rfl, rfl⟩ := h
    obtain ⟨hlen, hget⟩ := bytesX_get els l hl
    obtain ⟨v1, h1, h2⟩ := hone _ _ hels
    have hmem := hasTk_mem htk
    obtain ⟨bb, ee, lim2, hlive⟩ := hm.toks _ hmem
    simp only at hlive
    cases h2 with
    | slNil _ _ ht => exact absurd rfl (ht _ _)
    | sl _ _ _ ad cap fv hs hrow2 hf1 hf2 hcap ht =>
    simp only [Tok.fits] at ht
    obtain ⟨hoff, ht⟩ := ht
    have hroom := hlive.room
    rw [ht] at hroom; injection hroom with hroom; simp only [Prod.mk.injEq] at hroom
    obtain ⟨hbb, hee, hlim⟩ := hroom
    have had : ad = ⟨bb, 0, none⟩ := by cases ad; simp only at hs hbb hoff; subst hs; subst hbb; subst hoff; rfl
    subst had
    have hlne : l ≠ [] := by intro q; subst q; simp at hlen; subst hlen; simp at hne
    rw [hlen] at h1
    refine (hrow b' bb cap l w hlne (by omega) (by omega) h1 (by rw [hlive.shp]; congr 2; omega) (fun j x hx => ?_)).mono fun r w' hp => ?_
    · have he := hget j x hx
      have hj := (List.getElem?_eq_some_iff.1 he).1
      have h3 := hm.held _ _ _ (hf1 j 0 hj (by omega))
      simp only [Nat.zero_add, Nat.mul_one, Nat.add_zero] at h3
      have h4 := hf2 j 0 _ (.int .u8 x.toNat) he rfl
      rw [h3, int_rep h4]
    · obtain ⟨rfl, rfl⟩ := hp
      let s0 : St := { s with lv := s.lv.filter fun q => !(q.1 == k') }
      have hm00 : Mem g s0 w B := hm.drop rfl rfl List.filter_sublist
      have hm0 : Mem g s0 w.drew B := hm00.drew
      have hgr := freeze_grown w.drew bb l.length 0
      have hother : ∀ e ∈ s0.lv, ∀ x y, g.room e.2.1 e.2.2.1 ≠ some (bb, x, y) := fun e he p q hr => by
        obtain ⟨he1, he2⟩ := List.mem_filter.1 he
        have hk : e.1 ≠ k' := by simpa using he2
        have := hm.tinj e he1 _ hmem _ _ _ _ _ hr hlive.room
        exact hk (by rw [this])
      have hm1 : Mem g s0 (w.drew.freeze ⟨bb, 0, none⟩ l.length) B := hm0.write (b := bb) ⟨fun y hy n l => hm.apart _ hmem y hy _ _ _ _ _ hlive.room, hother⟩ hgr (.refl g) rfl rfl (fun _ _ _ => rfl) (fun o v hv => by
        rw [cell_freeze]; exact hm0.held _ _ _ hv)
      exact ⟨g, hdn.trans ⟨.refl g, (Below.refl B _).grown hgr hm.base (fun k hk => by injection hk with hk; subst hk; exact hlive.base), fun _ _ _ => rfl⟩, hm1, .str _ _ rfl⟩
  · cases h
/-- A contract that says what is returned, and that nothing old changes, in the evaluator's form. -/
theorem ext_of_below {f : FuncId} {vals : Array Value} {x : AV} {v : Value} (h : Calls P f vals w fun e w' => e = .returned v ∧ Below w.heap.size w w') (hh : Held g w) (hr : Rep g x v) (hc : x.clean = true) :
    Calls P f vals w fun e w' => ∃ g' : G, (∀ b o v, g.fz b o = some v → g'.fz b o = some v) ∧ Held g' w' ∧ Below w.heap.size w w' ∧ (∀ b o, b < w.heap.size → g'.fz b o = g.fz b o) ∧ EndR g' (.ret x) e ∧ x.clean = true := by
  refine h.mono fun e w' hp => ?_
  obtain ⟨rfl, hb⟩ := hp
  refine ⟨g, fun _ _ _ h => h, fun b o u hu => ?_, hb, fun _ _ _ => rfl, hr, hc⟩
  have h1 := hh b o u hu
  rw [cell_of_block (hb.block b (cell_lt h1))]
  exact h1
/-- Cells of the beginning. -/
theorem Old.cell {W0 w : World} {B b o : Nat} {v : Value} (h : Old W0 w B) (hv : W0.cell? ⟨b, o, none⟩ = some v) : w.cell? ⟨b, o, none⟩ = some v := by
  rw [cell_of_block (h.2 b (cell_lt hv))]; exact hv
/-- A variable of the beginning. -/
theorem Old.var {W0 w : World} {B : Nat} {n : String} {cs : Array Value} (h : Old W0 w B) (hv : W0.var? P n = some cs) : w.var? P n = some cs := by
  unfold World.var? at *
  cases hg : P.globalNamed n with
  | none => rw [hg] at hv; simp at hv
  | some q =>
    rw [hg] at hv
    simp only [Option.bind_some] at hv ⊢
    cases ho : W0.heap[q]? with
    | none => rw [ho] at hv; simp at hv
    | some o =>
      rw [h.2 q (Array.getElem?_eq_some_iff.1 ho).1]
      exact hv
end
end Go.Ev
