/-
  How arguments are read: what a value of a plain type stands for, out of the form's reading; no condition but what each says.
-/
import Derived.Test.YtjfpcgkgdajcfaaGreatDoorEvK
import GoSem.ClaimChange
import Derived.Carry
namespace Go.Ev
open Go

/-- All that lies in a world. -/
def gW (w : World) : G := { fz := fun b o => w.cell? ⟨b, o, none⟩, eta := fun _ => none, room := fun _ _ => none }
theorem held_gW (w : World) : Held (gW w) w := fun _ _ _ h => h
/-- A slice that begins at a plain place. -/
def Sp (v : Value) : Prop := ∀ a len cap, v = .slice (some a) len cap → a.spot = none
section
variable {H : Type} {enc : TypeId × Value → H} {P : Program} {w : World} {spare : Nat → Bool} {held : Bool}
/-- What reads as data of a type stands for something. -/
def Opn (H : Type) (enc : TypeId × Value → H) (P : Program) (w : World) (spare : Nat → Bool) (held : Bool) (t : TypeId) (α : Type) (e : α → AV) (good : α → Prop) : Prop :=
  ∀ fuel cs d ps, DataW.trod enc P w 0 spare held fuel t cs = some (d, ps) → (∀ c ∈ cs, Sp c) → ∃ x : α, Reps (gW w) (e x).cells cs ∧ good x
/-- With no slice in it. -/
def OpnN (H : Type) (enc : TypeId × Value → H) (P : Program) (w : World) (spare : Nat → Bool) (held : Bool) (t : TypeId) (α : Type) (e : α → AV) (good : α → Prop) : Prop :=
  ∀ fuel cs d ps, DataW.trod enc P w 0 spare held fuel t cs = some (d, ps) → ∃ x : α, Reps (gW w) (e x).cells cs ∧ good x
theorem OpnN.opn {t : TypeId} {α : Type} {e : α → AV} {good : α → Prop} (h : OpnN H enc P w spare held t α e good) : Opn H enc P w spare held t α e good := fun fuel cs d ps hd _ => h fuel cs d ps hd
theorem one_cell {t : TypeId} {fuel : Nat} {cs : List Value} {d : DataW H} {ps : List MemPlace} (h : DataW.trod enc P w 0 spare held fuel t cs = some (d, ps)) : ∃ f, fuel = f + 1 := by
  cases fuel with
  | zero => simp [DataW.trod] at h
  | succ f => exact ⟨f, rfl⟩
theorem opn_bool {t : TypeId} (hu : P.underlying t = some .bool) : OpnN H enc P w spare held t Bool AV.bool (fun _ => True) := fun fuel cs d ps h => by
  obtain ⟨f, rfl⟩ := one_cell h
  unfold DataW.trod at h
  rw [hu] at h
  split at h
  all_goals first
    | (rename_i h1; cases h1; done)
    | skip
  all_goals first
    | (cases h; done)
    | skip
  · rename_i b _
    exact ⟨b, .cons (.bool b) (.nil _), trivial⟩
theorem opn_int {t : TypeId} {k : IntKind} (hu : P.underlying t = some (.int k)) : OpnN H enc P w spare held t Int (AV.int k) (fun n => (Lit.int k n).wf = true) := fun fuel cs d ps h => by
  obtain ⟨f, rfl⟩ := one_cell h
  unfold DataW.trod at h
  rw [hu] at h
  split at h
  all_goals first
    | (rename_i h1; cases h1; done)
    | skip
  all_goals first
    | (cases h; done)
    | skip
  · rename_i k0 k' n h1
    injection h1 with h1
    injection h1 with h1
    subst h1
    split at h
    · rename_i hk
      obtain ⟨rfl, hw⟩ := hk
      exact ⟨n, .cons (.int _ n) (.nil _), hw⟩
    · cases h
theorem opn_str {t : TypeId} (hu : P.underlying t = some .string) : OpnN H enc P w spare held t (List UInt8) AV.str (fun l => l.length ≤ maxLen) := fun fuel cs d ps h => by
  obtain ⟨f, rfl⟩ := one_cell h
  unfold DataW.trod at h
  rw [hu] at h
  split at h
  all_goals first
    | (rename_i h1; cases h1; done)
    | skip
  all_goals first
    | (cases h; done)
    | skip
  · rename_i s _
    split at h
    · rename_i hs
      exact ⟨s.data.toList, .cons (.str _ s rfl) (.nil _), by simpa using hs⟩
    · cases h
theorem list_of {α : Type} {R : Nat → α → Prop} : ∀ n : Nat, (∀ i, i < n → ∃ x, R i x) → ∃ l : List α, l.length = n ∧ ∀ i x, l[i]? = some x → R i x := by
  intro n
  induction n with
  | zero => exact fun _ => ⟨[], rfl, fun i x h => by simp at h⟩
  | succ n ih =>
    intro h
    obtain ⟨l, hl, hr⟩ := ih fun i hi => h i (by omega)
    obtain ⟨x, hx⟩ := h n (by omega)
    refine ⟨l ++ [x], by simp [hl], fun i y hy => ?_⟩
    rw [List.getElem?_append] at hy
    split at hy
    · exact hr i y hy
    · rename_i hi
      cases hq : i - l.length with
      | zero =>
        rw [hq] at hy
        simp only [List.getElem?_cons_zero, Option.some.injEq] at hy
        subst hy
        rwa [show i = n by omega]
      | succ q => rw [hq] at hy; simp at hy
theorem mapM_get {α β : Type} {f : α → Option β} : ∀ (l : List α) (r : List β), l.mapM f = some r → r.length = l.length ∧ ∀ (i : Nat) (x : α), l[i]? = some x → ∃ y, r[i]? = some y ∧ f x = some y := by
  intro l
  induction l with
  | nil => intro r h; simp only [List.mapM_nil, Option.pure_def, Option.some.injEq] at h; subst h; exact ⟨rfl, fun i x h => by simp at h⟩
  | cons x l ih =>
    intro r h
    rw [List.mapM_cons] at h
    simp only [Option.pure_def, Option.bind_eq_bind, Option.bind_eq_some_iff, Option.some.injEq] at h
    obtain ⟨y, hy, r', hr, rfl⟩ := h
    obtain ⟨h1, h2⟩ := ih r' hr
    refine ⟨by simp [h1], fun i z hz => ?_⟩
    cases i with
    | zero => simp only [List.getElem?_cons_zero, Option.some.injEq] at hz; subst hz; exact ⟨y, rfl, hy⟩
    | succ i => exact h2 i z (by simpa using hz)
theorem cells_get {a : Addr} {n : Nat} {cs : List Value} (h : w.cells? 0 a n = some cs) : cs.length = n ∧ ∀ (j : Nat) (v : Value), cs[j]? = some v → w.cell? (a.add j) = some v := by
  unfold World.cells? at h
  rw [if_pos (Nat.zero_le _)] at h
  obtain ⟨h1, h2⟩ := mapM_get _ _ h
  simp only [List.length_range] at h1
  refine ⟨h1, fun j v hv => ?_⟩
  have hj : j < cs.length := (List.getElem?_eq_some_iff.1 hv).1
  obtain ⟨y, hy, hf⟩ := h2 j j (by rw [List.getElem?_range (by omega)])
  rw [hv] at hy; injection hy with hy; subst hy
  exact hf
/-- A slice of plain elements. -/
theorem opn_slice {t e : TypeId} {n : Nat} {α : Type} {en : α → AV} {good : α → Prop} (hu : P.underlying t = some (.slice e)) (hn : P.cellsOf e = n) (_hp : 0 < n) (hrow : ∀ x, AV.row n (en x) = true) (h : OpnN H enc P w spare held e α en good) :
    Opn H enc P w spare held t (Bool × List α) (fun p => .sl p.1 n (p.2.map en) .no) (fun p => (p.1 = true → p.2 = []) ∧ p.2.length ≤ maxLen ∧ ∀ x ∈ p.2, good x) := fun fuel cs d ps hd hsp => by
  obtain ⟨f, rfl⟩ := one_cell hd
  unfold DataW.trod at hd
  rw [hu] at hd
  split at hd
  all_goals first
    | (rename_i h1; cases h1; done)
    | skip
  all_goals first
    | (cases hd; done)
    | skip
  · exact ⟨(true, []), .cons (.slNil n .no (fun k t q => by cases q)) (.nil _), fun _ => rfl, by simp, fun x hx => by cases hx⟩
  · rename_i e' a len cap h1
    injection h1 with h1
    injection h1 with h1
    subst h1
    simp only at hd
    split at hd
    case isFalse => cases hd
    rename_i hc
    obtain ⟨_, hlc, hcm⟩ := hc
    rw [Option.bind_eq_some_iff] at hd
    obtain ⟨elems, hel, _⟩ := hd
    obtain ⟨hl, hg⟩ := mapM_get _ _ hel
    simp only [List.length_range] at hl
    have hs : a.spot = none := hsp _ (List.mem_singleton.2 rfl) a len cap rfl
    have hadd : ∀ i, a.add i = ⟨a.block, a.off + i, none⟩ := fun i => by
      unfold Addr.add
      split
      · rename_i hi; subst hi; cases a; simp only at hs; subst hs; rfl
      · rfl
    have hadd2 : ∀ i j, (a.add i).add j = ⟨a.block, a.off + (i + j), none⟩ := fun i j => by
      rw [hadd i]
      unfold Addr.add
      split
      · rename_i hj; subst hj; rfl
      · simp [Nat.add_assoc]
    have key : ∀ i, i < len → ∃ x : α, (∃ cs, w.cells? 0 (a.add (i * n)) n = some cs ∧ Reps (gW w) (en x).cells cs) ∧ good x := fun i hi => by
      obtain ⟨y, hy, hf⟩ := hg i i (by rw [List.getElem?_range hi])
      rw [Option.bind_eq_some_iff] at hf
      obtain ⟨cs, hcs, hd⟩ := hf
      rw [hn] at hcs
      obtain ⟨x, hx, hgd⟩ := h f cs _ _ hd
      exact ⟨x, ⟨cs, hcs, hx⟩, hgd⟩
    obtain ⟨l, hll, hlr⟩ := list_of len key
    refine ⟨(false, l), .cons ?_ (.nil _), (fun q => by simp at q), ?_, fun x hx => ?_⟩
    · have hlen : (l.map en).length = len := by simp [hll]
      have := Rep.sl (g := gW w) n (l.map en) .no a cap (fun i j => (w.cell? ⟨a.block, a.off + (i * n + j), none⟩).getD Go.undef) hs
        (fun e he => by obtain ⟨x, _, rfl⟩ := List.mem_map.1 he; exact hrow x)
        (fun i j hi hj => by
          rw [hlen] at hi
          obtain ⟨cs, hcs, _⟩ := (hlr i _ (List.getElem?_eq_getElem (by omega))).1
          obtain ⟨h3, h4⟩ := cells_get hcs
          have := h4 j cs[j] (List.getElem?_eq_getElem (by omega))
          rw [hadd2] at this
          show w.cell? _ = _
          rw [this]; rfl)
        (fun i j e c he hc => by
          rw [List.getElem?_map, Option.map_eq_some_iff] at he
          obtain ⟨x, hx, rfl⟩ := he
          obtain ⟨cs, hcs, hr⟩ := (hlr i x hx).1
          obtain ⟨h3, h4⟩ := cells_get hcs
          have hj : j < cs.length := by rw [hr.1]; exact (List.getElem?_eq_some_iff.1 hc).1
          have := h4 j cs[j] (List.getElem?_eq_getElem hj)
          rw [hadd2] at this
          rw [this, Option.getD_some]
          exact hr.2 j c _ hc (List.getElem?_eq_getElem hj))
        (by rw [hlen]; exact hlc) trivial
      rw [hlen] at this
      exact this
    · show l.length ≤ maxLen
      omega
    · obtain ⟨i, hi⟩ := List.mem_iff_getElem?.1 hx
      exact (hlr i x hi).2
/-- A struct: field by field, at their places. -/
theorem trod_struct {t : TypeId} {fs : Array Field} (hu : P.underlying t = some (.struct fs)) {fuel : Nat} {cs : List Value} {d : DataW H} {ps : List MemPlace} (h : DataW.trod enc P w 0 spare held fuel t cs = some (d, ps)) :
    ∃ f, cs.length = P.cellsOf t ∧ ∀ (i : Nat) (fl : Field), fs.toList[i]? = some fl → ∃ y, DataW.trod enc P w 0 spare held f fl.type ((cs.drop fl.offset).take (P.cellsOf fl.type)) = some y := by
  obtain ⟨f, rfl⟩ := one_cell h
  refine ⟨f, ?_⟩
  unfold DataW.trod at h
  rw [hu] at h
  split at h
  all_goals first
    | (rename_i h1; cases h1; done)
    | skip
  all_goals first
    | (cases h; done)
    | skip
  · rename_i fs' h1
    injection h1 with h1
    injection h1 with h1
    subst h1
    split at h
    · rename_i hl
      rw [Option.map_eq_some_iff] at h
      obtain ⟨xs, hx, _⟩ := h
      refine ⟨hl, fun i fl hf => ?_⟩
      obtain ⟨y, _, hy⟩ := (mapM_get _ _ hx).2 i fl hf
      exact ⟨y, hy⟩
    · cases h
  · exact (‹∀ fs_1 : Array Field, some (TypeDesc.struct fs) = some (TypeDesc.struct fs_1) → False› fs rfl).elim
theorem trod_array {t e : TypeId} {n : Nat} (hu : P.underlying t = some (.array n e)) {fuel : Nat} {cs : List Value} {d : DataW H} {ps : List MemPlace} (h : DataW.trod enc P w 0 spare held fuel t cs = some (d, ps)) :
    ∃ f, cs.length = P.cellsOf t ∧ ∀ i, i < n → ∃ y, DataW.trod enc P w 0 spare held f e ((cs.drop (i * P.cellsOf e)).take (P.cellsOf e)) = some y := by
  obtain ⟨f, rfl⟩ := one_cell h
  refine ⟨f, ?_⟩
  unfold DataW.trod at h
  rw [hu] at h
  split at h
  all_goals first
    | (rename_i h1; cases h1; done)
    | skip
  all_goals first
    | (cases h; done)
    | skip
  · rename_i n' e' h1
    injection h1 with h1
    injection h1 with h1 h2
    subst h1; subst h2
    split at h
    · rename_i hl
      rw [Option.map_eq_some_iff] at h
      obtain ⟨xs, hx, _⟩ := h
      refine ⟨hl, fun i hi => ?_⟩
      obtain ⟨y, _, hy⟩ := (mapM_get _ _ hx).2 i i (by rw [List.getElem?_range hi])
      exact ⟨y, hy⟩
    · cases h
  · exact (‹∀ (n_1 : Nat) (e_1 : TypeId), some (TypeDesc.array n e) = some (TypeDesc.array n_1 e_1) → False› n e rfl).elim
theorem take_all {α : Type} {l : List α} {n m : Nat} (h : l.length = n + m) : l = (l.drop 0).take n ++ (l.drop n).take m := by
  rw [List.drop_zero]
  conv => lhs; rw [← List.take_append_drop n l]
  congr 1
  rw [List.take_of_length_le (by simp; omega)]
/-- A struct of two fields. -/
theorem opn_two {t t1 t2 : TypeId} {fs : Array Field} {f1 f2 : Field} {α β : Type} {e1 : α → AV} {e2 : β → AV} {g1 : α → Prop} {g2 : β → Prop} (hu : P.underlying t = some (.struct fs)) (hf : fs.toList = [f1, f2])
    (ho1 : f1.offset = 0) (ho2 : f2.offset = P.cellsOf f1.type) (hc : P.cellsOf t = P.cellsOf f1.type + P.cellsOf f2.type) (ht1 : f1.type = t1) (ht2 : f2.type = t2) (h1 : Opn H enc P w spare held t1 α e1 g1) (h2 : Opn H enc P w spare held t2 β e2 g2) :
    Opn H enc P w spare held t (α × β) (fun p => .agg ((e1 p.1).cells ++ (e2 p.2).cells)) (fun p => g1 p.1 ∧ g2 p.2) := fun fuel cs d ps hd hsp => by
  subst ht1; subst ht2
  obtain ⟨f, hl, hx⟩ := trod_struct hu hd
  rw [hf] at hx
  obtain ⟨⟨d1, p1⟩, hy1⟩ := hx 0 f1 rfl
  obtain ⟨⟨d2, p2⟩, hy2⟩ := hx 1 f2 rfl
  rw [ho1] at hy1
  rw [ho2] at hy2
  rw [hc] at hl
  obtain ⟨x1, hr1, hg1⟩ := h1 f _ _ _ hy1 (fun c hc => hsp c (List.mem_of_mem_drop (List.mem_of_mem_take hc)))
  obtain ⟨x2, hr2, hg2⟩ := h2 f _ _ _ hy2 (fun c hc => hsp c (List.mem_of_mem_drop (List.mem_of_mem_take hc)))
  refine ⟨(x1, x2), ?_, hg1, hg2⟩
  show Reps (gW w) ((e1 x1).cells ++ (e2 x2).cells) cs
  rw [take_all hl]
  exact hr1.app hr2
theorem opnN_two {t t1 t2 : TypeId} {fs : Array Field} {f1 f2 : Field} {α β : Type} {e1 : α → AV} {e2 : β → AV} {g1 : α → Prop} {g2 : β → Prop} (hu : P.underlying t = some (.struct fs)) (hf : fs.toList = [f1, f2])
    (ho1 : f1.offset = 0) (ho2 : f2.offset = P.cellsOf f1.type) (hc : P.cellsOf t = P.cellsOf f1.type + P.cellsOf f2.type) (ht1 : f1.type = t1) (ht2 : f2.type = t2) (h1 : OpnN H enc P w spare held t1 α e1 g1) (h2 : OpnN H enc P w spare held t2 β e2 g2) :
    OpnN H enc P w spare held t (α × β) (fun p => .agg ((e1 p.1).cells ++ (e2 p.2).cells)) (fun p => g1 p.1 ∧ g2 p.2) := fun fuel cs d ps hd => by
  subst ht1; subst ht2
  obtain ⟨f, hl, hx⟩ := trod_struct hu hd
  rw [hf] at hx
  obtain ⟨⟨d1, p1⟩, hy1⟩ := hx 0 f1 rfl
  obtain ⟨⟨d2, p2⟩, hy2⟩ := hx 1 f2 rfl
  rw [ho1] at hy1
  rw [ho2] at hy2
  rw [hc] at hl
  obtain ⟨x1, hr1, hg1⟩ := h1 f _ _ _ hy1
  obtain ⟨x2, hr2, hg2⟩ := h2 f _ _ _ hy2
  refine ⟨(x1, x2), ?_, hg1, hg2⟩
  show Reps (gW w) ((e1 x1).cells ++ (e2 x2).cells) cs
  rw [take_all hl]
  exact hr1.app hr2
/-- An array of two. -/
theorem opnN_arr2 {t e : TypeId} {α : Type} {en : α → AV} {good : α → Prop} (hu : P.underlying t = some (.array 2 e)) (hc : P.cellsOf t = P.cellsOf e + P.cellsOf e) (h : OpnN H enc P w spare held e α en good) :
    OpnN H enc P w spare held t (α × α) (fun p => .agg ((en p.1).cells ++ (en p.2).cells)) (fun p => good p.1 ∧ good p.2) := fun fuel cs d ps hd => by
  obtain ⟨f, hl, hx⟩ := trod_array hu hd
  obtain ⟨⟨d1, p1⟩, hy1⟩ := hx 0 (by omega)
  obtain ⟨⟨d2, p2⟩, hy2⟩ := hx 1 (by omega)
  rw [Nat.zero_mul] at hy1
  rw [Nat.one_mul] at hy2
  rw [hc] at hl
  obtain ⟨x1, hr1, hg1⟩ := h f _ _ _ hy1
  obtain ⟨x2, hr2, hg2⟩ := h f _ _ _ hy2
  refine ⟨(x1, x2), ?_, hg1, hg2⟩
  show Reps (gW w) ((en x1).cells ++ (en x2).cells) cs
  rw [take_all hl]
  exact hr1.app hr2
/-- An argument as a whole. -/
theorem Opn.rep {t : TypeId} {α : Type} {e : α → AV} {good : α → Prop} (h : Opn H enc P w spare held t α e good) {v : Value} {d : DataW H} {ps : List MemPlace} (hd : DataW.Trod enc P w 0 spare held t v d ps) (hsp : ∀ c ∈ v.cells.toList, Sp c)
    (hag : (∃ cs, v = .agg cs ∧ ∀ x, ∃ l, e x = .agg l) ∨ (v.cells = #[v] ∧ ∀ x, (e x).cells = [e x])) : ∃ x, Rep (gW w) (e x) v ∧ good x := by
  obtain ⟨fuel, hd⟩ := hd
  obtain ⟨x, hr, hg⟩ := h fuel _ d ps hd hsp
  refine ⟨x, ?_, hg⟩
  rcases hag with ⟨cs, rfl, hl⟩ | ⟨hv, hx⟩
  · obtain ⟨l, hl⟩ := hl x
    rw [hl] at hr ⊢
    exact hr.agg
  · rw [hv, hx] at hr
    exact hr.2 0 _ _ rfl rfl
end
end Go.Ev
namespace Go.Ev
open Go Go.RowKit
section
variable {H : Type} {enc : TypeId × Value → H} {P : Program}
theorem sp_cell {w : World} {r : Reach} {base : Nat} {u : TypeId} {c : Value} (h : Cell.okWide P w r base u c) : Sp c := by
  intro a len cap hc
  subst hc
  unfold Cell.okWide at h
  cases hu : P.underlying u with
  | none => rw [hu] at h; simp only [Cell.ok, hu] at h
  | some d =>
    rw [hu] at h
    cases d <;> simp only [Cell.ok, hu] at h
    exact h.2.2.2.1
theorem sp_okWide {w : World} {r : Reach} {base : Nat} {t : TypeId} {v : Value} (h : Value.okWide P w r base t v) : ∀ c ∈ v.cells.toList, Sp c := by
  unfold Value.okWide at h
  have one : Cell.okWide P w r base t v → ∀ c ∈ v.cells.toList, Sp c := fun h c hc => by
    have hs := sp_cell h
    cases v <;> first
      | (simp only [Value.cells, List.mem_singleton] at hc; subst hc; exact hs)
      | skip
    · rename_i cs
      unfold Cell.okWide at h
      cases hu : P.underlying t with
      | none => rw [hu] at h; simp only [Cell.ok, hu] at h
      | some d =>
        rw [hu] at h
        cases d <;> simp only [Cell.ok, hu] at h
  split at h
  · obtain ⟨cs, rfl, _, hr⟩ := h
    intro c hc
    obtain ⟨ts, _, _, hg⟩ := hr
    obtain ⟨i, hi⟩ := List.mem_iff_getElem?.1 hc
    obtain ⟨u, _, hu⟩ := hg i c (by simpa [Value.cells] using hi)
    exact sp_cell hu
  · obtain ⟨cs, rfl, _, hr⟩ := h
    intro c hc
    obtain ⟨ts, _, _, hg⟩ := hr
    obtain ⟨i, hi⟩ := List.mem_iff_getElem?.1 hc
    obtain ⟨u, _, hu⟩ := hg i c (by simpa [Value.cells] using hi)
    exact sp_cell hu
  · exact one h
theorem trodAll_below (hl : laidOutB P = true) {W W' : World} (hb : Below W.heap.size W W') : ∀ (ts : List TypeId) (vs : List Value) (ds : List (DataW H)) (ps : List MemPlace), (∀ t ∈ ts, P.readableRec t = true ∧ t < P.types.size) →
    DataW.TrodAll enc P W 0 (fun _ => true) true ts vs ds ps → (∀ x ∈ ps, x.block < W.heap.size) → DataW.TrodAll enc P W' 0 (fun b => decide (b < W.heap.size)) true ts vs ds ps := by
  intro ts
  induction ts with
  | nil =>
    intro vs ds ps _ h _
    cases vs <;> cases ds <;> first | exact h | (simp [DataW.TrodAll] at h)
  | cons t ts ih =>
    intro vs ds ps hr h hlt
    cases vs with
    | nil => cases ds <;> simp [DataW.TrodAll] at h
    | cons v vs =>
      cases ds with
      | nil => simp [DataW.TrodAll] at h
      | cons d ds =>
        obtain ⟨p, q, h1, h2, rfl⟩ := h
        have ht := hr t List.mem_cons_self
        exact ⟨p, q, Below.trod hl ht.1 ht.2 h1 hb (fun x hx => hlt x (List.mem_append_left _ hx)), ih vs ds q (fun t ht => hr t (List.mem_cons_of_mem _ ht)) h2 (fun x hx => hlt x (List.mem_append_right _ hx)), rfl⟩
end
theorem wf_i64 {n : Int} (h : (Lit.int .i64 n).wf = true) : -9223372036854775808 ≤ n ∧ n ≤ 9223372036854775807 := by
  unfold Lit.wf at h
  simp [IntKind.min, IntKind.max, IntKind.bits, IntKind.signed] at h
  omega
theorem wf_u32 {n : Int} (h : (Lit.int .u32 n).wf = true) : 0 ≤ n ∧ n ≤ 4294967295 := by
  unfold Lit.wf at h
  simp [IntKind.min, IntKind.max, IntKind.bits, IntKind.signed] at h
  omega
theorem wf_u8 {n : Int} (h : (Lit.int .u8 n).wf = true) : 0 ≤ n ∧ n ≤ 255 := by
  unfold Lit.wf at h
  simp [IntKind.min, IntKind.max, IntKind.bits, IntKind.signed] at h
  omega
end Go.Ev
