/-
  The order of a region: what may be exchanged; no condition.
-/
import Derived.Test.YtjfpcgkgdajcfaaGreatDoorEvC
namespace Go.Ev
open Go Go.RowKit

/-- What stands in a bit of the order: an edge, or what stands behind an edge. -/
theorem before_bit {ops : Array Oper} {i j : Nat} (h : ((Region.before ops).getD i 0).testBit j = true) :
    ∃ o, ops[i]? = some o ∧ ∃ e ∈ o.after, Region.binds .any e = true ∧ (e.on = j ∨ (e.on < i ∧ ((Region.before ops).getD e.on 0).testBit j = true)) := by
  have fold : ∀ (j : Nat) (acc : Array Nat) (l : List Edge) (s0 : Nat), (l.foldl (fun s e => if Region.binds .any e then s ||| 2 ^ e.on ||| acc.getD e.on 0 else s) s0).testBit j = true →
      s0.testBit j = true ∨ ∃ e ∈ l, Region.binds .any e = true ∧ (e.on = j ∨ (acc.getD e.on 0).testBit j = true) := by
    intro j acc l
    induction l with
    | nil => intro s0 h; exact .inl h
    | cons e l ih =>
      intro s0 h
      rw [List.foldl_cons] at h
      rcases ih _ h with h | ⟨e', he, h1, h2⟩
      · split at h
        · rename_i hb
          rw [Nat.testBit_or, Nat.testBit_or, Bool.or_eq_true, Bool.or_eq_true] at h
          rcases h with (h | h) | h
          · exact .inl h
          · rw [Nat.testBit_two_pow] at h
            exact .inr ⟨e, List.mem_cons_self, hb, .inl (by simpa using h)⟩
          · exact .inr ⟨e, List.mem_cons_self, hb, .inr h⟩
        · exact .inl h
      · exact .inr ⟨e', List.mem_cons_of_mem _ he, h1, h2⟩
  let f : Array Nat → Oper → Array Nat := fun acc o => acc.push (o.after.foldl (fun s e => if Region.binds .any e then s ||| 2 ^ e.on ||| acc.getD e.on 0 else s) 0)
  have main : ∀ (l : List Oper) (acc : Array Nat) (pre : List Oper), acc.size = pre.length →
      (∀ i j, (acc.getD i 0).testBit j = true → ∃ o, pre[i]? = some o ∧ ∃ e ∈ o.after, Region.binds .any e = true ∧ (e.on = j ∨ (e.on < i ∧ (acc.getD e.on 0).testBit j = true))) →
      ∀ i j, ((l.foldl f acc).getD i 0).testBit j = true → ∃ o, (pre ++ l)[i]? = some o ∧ ∃ e ∈ o.after, Region.binds .any e = true ∧ (e.on = j ∨ (e.on < i ∧ ((l.foldl f acc).getD e.on 0).testBit j = true)) := by
    intro l
    induction l with
    | nil => intro acc pre _ h i j hb; rw [List.append_nil]; exact h i j hb
    | cons o l ih =>
      intro acc pre hsz h i j hb
      rw [List.foldl_cons] at hb ⊢
      have := ih (f acc o) (pre ++ [o]) (by simp [f, hsz]) (fun i j hb => ?_) i j hb
      · rw [List.append_assoc, List.singleton_append] at this
        exact this
      · have hget : ∀ q, q < acc.size → (f acc o).getD q 0 = acc.getD q 0 := fun q hq => by
          simp only [f, Array.getD_eq_getD_getElem?, Array.getElem?_push]
          rw [if_neg (by omega)]
        by_cases hi : i < acc.size
        · rw [hget i hi] at hb
          obtain ⟨o', ho, e, he, h1, h2⟩ := h i j hb
          refine ⟨o', by rw [List.getElem?_append_left (by omega)]; exact ho, e, he, h1, ?_⟩
          rcases h2 with h2 | ⟨h2, h3⟩
          · exact .inl h2
          · exact .inr ⟨h2, by rw [hget _ (by omega)]; exact h3⟩
        · by_cases hi2 : i = acc.size
          · subst hi2
            have : (f acc o).getD acc.size 0 = o.after.foldl (fun s e => if Region.binds .any e then s ||| 2 ^ e.on ||| acc.getD e.on 0 else s) 0 := by
              simp [f]
            rw [this, ← Array.foldl_toList] at hb
            rcases fold j acc o.after.toList 0 hb with hb | ⟨e, he, h1, h2⟩
            · simp at hb
            · refine ⟨o, by rw [hsz, List.getElem?_append_right (Nat.le_refl _), Nat.sub_self]; rfl, e, by simpa using he, h1, ?_⟩
              rcases h2 with h2 | h2
              · exact .inl h2
              · have hlt : e.on < acc.size := by
                  apply Nat.lt_of_not_le
                  intro hle
                  rw [Array.getD_eq_getD_getElem?, Array.getElem?_eq_none hle] at h2
                  simp at h2
                exact .inr ⟨hlt, by rw [hget _ hlt]; exact h2⟩
          · have : (f acc o).getD i 0 = 0 := by
              rw [Array.getD_eq_getD_getElem?, Array.getElem?_eq_none (by simp [f]; omega)]; rfl
            rw [this] at hb
            simp at hb
  have hdef : Region.before ops = ops.toList.foldl f #[] := by
    unfold Region.before
    rw [← Array.foldl_toList]
  rw [hdef] at h ⊢
  have := main ops.toList #[] [] rfl (fun i j hb => by simp at hb) i j h
  rw [List.nil_append] at this
  obtain ⟨o, ho, rest⟩ := this
  exact ⟨o, by simpa using ho, rest⟩
/-- The slots that an operation names. -/
def named (o : Oper) : List Tmp := o.dst.toList ++ o.op.operands.toList.filterMap fun | .tmp t => some t | _ => none
theorem temps_spec {ops : Array Oper} {b : Array Nat} (h : Region.temporariesOk ops b = true) {i j : Nat} {oi oj : Oper} {d : Tmp} (hi : ops[i]? = some oi) (hj : ops[j]? = some oj) (hd : oi.dst = some d) (hn : d ∈ named oj) (hne : i ≠ j) : (b.getD (max i j) 0).testBit (min i j) = true := by
  unfold Region.temporariesOk at h
  simp only at h
  let step : Array (List (Tmp × Nat)) → Oper × Nat → Array (List (Tmp × Nat)) := fun w p => match p.1.dst with
    | some d => w.modify (d % ops.size) ((d, p.2) :: ·)
    | none => w
  have hw : ∀ (l : List (Oper × Nat)) (w : Array (List (Tmp × Nat))), w.size = ops.size → (∃ k, (d, i) ∈ w.getD k [] ∧ k = d % ops.size) ∨ (oi, i) ∈ l → (d, i) ∈ (l.foldl step w).getD (d % ops.size) [] := by
    intro l
    induction l with
    | nil =>
      intro w _ h
      rcases h with ⟨k, h, rfl⟩ | h
      · exact h
      · cases h
    | cons p l ih =>
      intro w hsz h
      rw [List.foldl_cons]
      have hsz' : (step w p).size = ops.size := by
        simp only [step]
        split
        · rw [Array.size_modify]; exact hsz
        · exact hsz
      refine ih _ hsz' ?_
      rcases h with ⟨k, h, rfl⟩ | h
      · left
        refine ⟨_, ?_, rfl⟩
        simp only [step]
        split
        · rename_i d' hd'
          rw [Array.getD_eq_getD_getElem?, Array.getElem?_modify]
          rw [Array.getD_eq_getD_getElem?] at h
          split
          · cases hwk : w[d % ops.size]? with
            | none => rw [hwk] at h; simp at h
            | some ll => rw [hwk] at h; simp at h ⊢; exact .inr h
          · exact h
        · exact h
      · rcases List.mem_cons.1 h with h | h
        · left
          refine ⟨_, ?_, rfl⟩
          subst h
          simp only [step, hd]
          have hlt : d % ops.size < w.size := by
            rw [hsz]
            exact Nat.mod_lt _ (by have := (Array.getElem?_eq_some_iff.1 hi).1; omega)
          rw [Array.getD_eq_getD_getElem?, Array.getElem?_modify, if_pos rfl, Array.getElem?_eq_getElem hlt]
          simp
        · exact .inr h
  have hmem : ∀ {k : Nat} {o : Oper}, ops[k]? = some o → (o, k) ∈ ops.toList.zipIdx := fun {k o} hk => by
    rw [List.mem_zipIdx_iff_getElem?]
    simpa using hk
  rw [List.all_eq_true] at h
  have h1 := h _ (hmem hj)
  simp only at h1
  rw [List.all_eq_true] at h1
  have h2 := h1 d (by unfold named at hn; exact hn)
  rw [List.all_eq_true] at h2
  have h3 := h2 (d, i) (hw _ _ (by simp) (.inr (hmem hi)))
  simp only [Bool.or_eq_true] at h3
  rcases h3 with (h3 | h3) | h3
  · simp at h3
  · exact absurd (by simpa using h3) hne
  · exact h3
section
variable {P : Program} {C : Cfg} {cF : FuncId → List AV → Option Out} {cD : FuncId → List AV → St → Option (Out × St)} {mu : Bool}
theorem map_congr {ρ ρ' : Operand → AV} {l : List Operand} (h : ∀ x ∈ l, ρ x = ρ' x) : l.map ρ = l.map ρ' := List.map_congr_left h
theorem parts_congr {ρ ρ' : Operand → AV} {ps : Array (Nat × Operand)} (h : ∀ x ∈ (ps.toList.map (·.2)).toArray, ρ x = ρ' x) : (ps.toList.map fun p => (p.1, ρ p.2)) = ps.toList.map fun p => (p.1, ρ' p.2) :=
  List.map_congr_left fun p hp => by rw [h p.2 (by rw [List.mem_toArray]; exact List.mem_map.2 ⟨p, hp, rfl⟩)]
theorem evP_congr {ρ ρ' : Operand → AV} {op : Op} (h : ∀ x ∈ op.operands, ρ x = ρ' x) : evP P ρ op = evP P ρ' op := by
  have h1 : ∀ x, x ∈ op.operands.toList → ρ x = ρ' x := fun x hx => h x (by simpa using hx)
  cases op <;> first
    | rfl
    | (simp only [Op.operands, List.mem_cons, List.not_mem_nil, or_false, forall_eq_or_imp, forall_eq] at h1
       first
         | (simp only [evP, h1]; done)
         | (obtain ⟨a, b⟩ := h1; simp only [evP, a, b]; done)
         | (obtain ⟨a, b, c⟩ := h1; simp only [evP, a, b, c]; done))
    | skip
  case makeFunc f a b =>
    simp only [evP]
    rw [map_congr (l := a.toList) (fun x hx => h x (by simp only [Op.operands, Array.mem_append]; exact .inl (by simpa using hx))), map_congr (l := b.toList) (fun x hx => h x (by simp only [Op.operands, Array.mem_append]; exact .inr (by simpa using hx)))]
  case slice t x lo hi mx =>
    have hx := h x (by simp [Op.operands])
    have e1 : lo.map ρ = lo.map ρ' := by cases lo with
      | none => rfl
      | some y => simp only [Option.map_some]; rw [h y (by simp [Op.operands])]
    have e2 : hi.map ρ = hi.map ρ' := by cases hi with
      | none => rfl
      | some y => simp only [Option.map_some]; rw [h y (by simp [Op.operands])]
    have e3 : mx.map ρ = mx.map ρ' := by cases mx with
      | none => rfl
      | some y => simp only [Option.map_some]; rw [h y (by simp [Op.operands])]
    simp only [evP, hx, e1, e2, e3]
  case build t ps => simp only [evP]; rw [parts_congr (ρ := ρ) (ρ' := ρ') (ps := ps) h]
  case buildSlice t n ps => simp only [evP]; rw [parts_congr (ρ := ρ) (ρ' := ρ') (ps := ps) h]
  case call c =>
    simp only [evP]
    split
    · rw [map_congr (l := c.args.toList) (fun x hx => h x (by simp only [Op.operands, Call.operands, Array.mem_append]; exact .inr (by simpa using hx)))]
    · rfl
theorem isE_congr {ρ ρ' : Operand → AV} {op : Op} (h : ∀ x ∈ op.operands, ρ x = ρ' x) : isE P ρ op = isE P ρ' op := by
  cases op <;> first
    | rfl
    | skip
  case load t x => simp only [isE]; rw [h x (by simp [Op.operands])]
  case slice t x lo hi mx => simp only [isE]; rw [h x (by simp [Op.operands])]
theorem evE_congr {ρ ρ' : Operand → AV} {op : Op} {d : Option Tmp} {s : St} (h : ∀ x ∈ op.operands, ρ x = ρ' x) : evE P mu d ρ s op = evE P mu d ρ' s op := by
  cases op <;> first
    | rfl
    | skip
  case box t x => simp only [evE]; rw [h x (by simp [Op.operands])]
  case load t x => simp only [evE]; rw [h x (by simp [Op.operands])]
  case store t x y => simp only [evE]; rw [h x (by simp [Op.operands]), h y (by simp [Op.operands])]
  case convert a b x => simp only [evE]; rw [h x (by simp [Op.operands])]
  case slice t x lo hi mx =>
    have hx := h x (by simp [Op.operands])
    have e1 : lo.map ρ = lo.map ρ' := by cases lo with
      | none => rfl
      | some y => simp only [Option.map_some]; rw [h y (by simp [Op.operands])]
    have e2 : hi.map ρ = hi.map ρ' := by cases hi with
      | none => rfl
      | some y => simp only [Option.map_some]; rw [h y (by simp [Op.operands])]
    simp only [evE, hx, e1, e2]
  case makeSlice t x y => simp only [evE]; rw [h x (by simp [Op.operands]), h y (by simp [Op.operands])]
  case call c =>
    simp only [evE]
    split
    · rw [map_congr (l := c.args.toList) (fun x hx => h x (by simp only [Op.operands, Call.operands, Array.mem_append]; exact .inr (by simpa using hx)))]
    · rfl
/-- A write to another slot. -/
theorem at_put {s : St} {e : Tmp} {v : AV} {x : Operand} (h : x ≠ .tmp e) : (s.put (some e) v).at x = s.at x := by
  cases x with
  | tmp t =>
    have : t ≠ e := fun q => h (by rw [q])
    simp only [St.at, St.put, List.getD_eq_getElem?_getD]
    rw [List.getElem?_set_ne (Ne.symm this)]
  | _ => rfl
theorem put_comm {s : St} {d e : Option Tmp} {x y : AV} (h : ∀ t, d = some t → e ≠ some t) : (s.put d x).put e y = (s.put e y).put d x := by
  cases d with
  | none => rfl
  | some d =>
    cases e with
    | none => rfl
    | some e =>
      have : e ≠ d := fun q => h d rfl (by rw [q])
      simp only [St.put]
      congr 1
      exact List.set_comm _ _ (Ne.symm this)
/-- What a write to a slot does to what follows. -/
def OpR.put (e : Option Tmp) (v : AV) : OpR → OpR
  | .ok a s => .ok a (s.put e v)
  | .pan x s => .pan x (s.put e v)
/-- What an operation does to the own state. -/
inductive Eff where
  | id
  | set (k g : Nat) (els : List AV)
  | blk (k n : Nat) (els : List AV) (ty : TypeId) (va : Bool)
  | new (k len : Nat) (ty : TypeId)
  | old (k g len : Nat) (ty : TypeId)
  | frz (k g : Nat)
  | ren (k g : Nat) (els : List AV)
def Eff.app : Eff → St → St
  | .id, s => s
  | .set k g els, s => s.setEls k g els
  | .blk k n els ty va, s => newBlk s k n els ty va
  | .new k len ty, s => newTk s k len ty
  | .old k g len ty, s => { s with lv := setTk k g len ty s.lv }
  | .frz k g, s => s.frz k g
  | .ren k g els, s => s.ren k g els
def Eff.fits : Eff → Acc → Prop
  | .id, _ => True
  | .set k _ _, a => a = .wr k
  | .blk k _ _ _ _, a => a = .nw k
  | .new k _ _, a => a = .tk k
  | .old k _ _ _, a => a = .tk k
  | .frz k _, a => a = .wr k
  | .ren k _ _, a => a = .nw k
/-- For such an access, two states look alike. -/
def Sees : Acc → St → St → Prop
  | .no, _, _ => True
  | .rd k, s, s2 => ∀ g, s2.blk k g = s.blk k g
  | .wr k, s, s2 => ∀ g, s2.blk k g = s.blk k g
  | .nw k, s, s2 => s2.nx k = s.nx k ∧ ∀ g, s2.blk k g = s.blk k g
  | .tk k, s, s2 => s2.nx k = s.nx k ∧ ∀ g len ty, hasTk k g len ty s2.lv = hasTk k g len ty s.lv
  | .all, _, _ => False
theorem nw_eq {s s2 : St} {k : Nat} (h : s2.nx k = s.nx k) : s2.nw k = s.nw k := by unfold St.nw; rw [h]
def Loc (f : St → Option (AV × Acc × St)) (s : St) (v : AV) (a : Acc) (s' : St) : Prop :=
  ∃ E : Eff, s' = E.app s ∧ E.fits a ∧ a ≠ .all ∧ ∀ s2 : St, s2.kb = s.kb → Sees a s s2 → f s2 = some (v, a, E.app s2)
theorem app_loc {ty : TypeId} {n bs k : Nat} {x y v : AV} {s s' : St} {a : Acc} (h : app mu ty n bs k x y s = some (v, a, s')) : Loc (app mu ty n bs k x y) s v a s' := by
  unfold app at h
  split at h
  case h_3 => cases h
  case h_2 =>
    rename_i k' gg n' lo len full
    rw [Option.bind_eq_some_iff] at h
    obtain ⟨ds, hds, h⟩ := h
    obtain ⟨hc, h⟩ := cnd_some h
    have red : ∀ s2, app mu ty n bs k (.hs k' gg n' lo len full) y s2 = cnd ds.isEmpty (some (.hs k' gg n' lo len full, .no, s2)) (appH ty n k' gg lo len ds s2) := fun s2 => by
      unfold app
      simp only [hds, Option.bind_some, hc, cnd_true]
    cases hd : ds.isEmpty with
    | true =>
      rw [hd] at h; injection h with h; simp only [Prod.mk.injEq] at h; obtain ⟨rfl, rfl, rfl⟩ := h
      exact ⟨.id, rfl, trivial, (by intro q; cases q), fun s2 _ _ => by rw [red, hd]; rfl⟩
    | false =>
      rw [hd, cnd_false] at h
      unfold appH at h
      rw [Option.bind_eq_some_iff] at h
      obtain ⟨bk, hbk, h⟩ := h
      obtain ⟨h1, h⟩ := cnd_some h
      obtain ⟨h2, h⟩ := bif_some h
      injection h with h; simp only [Prod.mk.injEq] at h; obtain ⟨rfl, rfl, rfl⟩ := h
      refine ⟨.ren k' gg (bk.els.take len ++ ds), rfl, rfl, (by intro q; cases q), fun s2 _ hs => ?_⟩
      rw [red, hd, cnd_false]
      unfold appH
      rw [hs.2 gg, hbk, Option.bind_some, h1, cnd_true, h2, cond_true, ← nw_eq hs.1]; rfl
  rename_i nil n' els tok
  rw [Option.bind_eq_some_iff] at h
  obtain ⟨ds, hds, h⟩ := h
  obtain ⟨hc, h⟩ := cnd_some h
  have red : ∀ s2, app mu ty n bs k (.sl nil n' els tok) y s2 = cnd (ds.isEmpty && isFree tok) (some (.sl nil n' els tok, .no, s2)) (appT mu ty n n' k els ds tok s2) := fun s2 => by
    unfold app
    simp only [hds, Option.bind_some, hc, cnd_true]
  cases hd : (ds.isEmpty && isFree tok) with
  | true =>
    rw [hd] at h; injection h with h; simp only [Prod.mk.injEq] at h; obtain ⟨rfl, rfl, rfl⟩ := h
    exact ⟨.id, rfl, trivial, (by intro q; cases q), fun s2 _ _ => by rw [red, hd]; rfl⟩
  | false =>
    rw [hd, cnd_false] at h
    unfold appT at h
    split at h
    · cases mu with
      | true =>
        rw [cond_true] at h; injection h with h; simp only [Prod.mk.injEq] at h; obtain ⟨rfl, rfl, rfl⟩ := h
        exact ⟨.blk k n (els ++ ds) ty false, rfl, rfl, (by intro q; cases q), fun s2 _ hs => by rw [red, hd, ← nw_eq hs.1]; rfl⟩
      | false =>
        rw [cond_false] at h; injection h with h; simp only [Prod.mk.injEq] at h; obtain ⟨rfl, rfl, rfl⟩ := h
        exact ⟨.new k (els ++ ds).length ty, rfl, rfl, (by intro q; cases q), fun s2 _ hs => by rw [red, hd, ← nw_eq hs.1]; rfl⟩
    · rename_i k' gg _
      obtain ⟨ht, h⟩ := cnd_some h
      injection h with h; simp only [Prod.mk.injEq] at h; obtain ⟨rfl, rfl, rfl⟩ := h
      refine ⟨.old _ _ (els ++ ds).length ty, rfl, rfl, (by intro q; cases q), fun s2 _ hs => ?_⟩
      rw [red, hd]
      show appT mu ty n n' k els ds (.own k' gg) s2 = _
      unfold appT
      simp only
      rw [hs.2, ht]; rfl
    · cases h
theorem evE_loc {ρ : Operand → AV} {op : Op} {d : Option Tmp} {s s' : St} {v : AV} {a : Acc} (hna : ∀ c, op = .call c → c.callee = .builtin .append → False) (h : evE P mu d ρ s op = some (v, a, s')) : Loc (fun s => evE P mu d ρ s op) s v a s' := by
  cases op <;> first | (cases h; done) | skip
  case alloc e =>
    simp only [evE, Option.bind_eq_some_iff] at h
    obtain ⟨z, hz, h⟩ := h
    unfold var at h
    obtain ⟨hc, h⟩ := bif_some h
    injection h with h
    simp only [Prod.mk.injEq] at h
    obtain ⟨rfl, rfl, rfl⟩ := h
    refine ⟨.blk _ _ _ _ _, rfl, rfl, (by intro q; cases q), fun s2 hk hs => ?_⟩
    simp only [evE, hz, Option.bind_some]
    unfold var
    rw [hc, cond_true, hk, nw_eq hs.1]; rfl
  case box e y =>
    simp only [evE] at h
    unfold var at h
    obtain ⟨hc, h⟩ := bif_some h
    injection h with h
    simp only [Prod.mk.injEq] at h
    obtain ⟨rfl, rfl, rfl⟩ := h
    refine ⟨.blk _ _ _ _ _, rfl, rfl, (by intro q; cases q), fun s2 hk hs => ?_⟩
    simp only [evE]
    unfold var
    rw [hc, cond_true, hk, nw_eq hs.1]; rfl
  case load t y =>
    simp only [evE] at h
    split at h
    · rename_i kk tt i oo hl
      simp only [Option.bind_eq_some_iff, Option.map_eq_some_iff] at h
      obtain ⟨bk, hbk, e, he, ⟨ag, n⟩, hty, y2, hx, h⟩ := h
      simp only [Prod.mk.injEq] at h
      obtain ⟨rfl, rfl, rfl⟩ := h
      refine ⟨.id, rfl, trivial, (by intro q; cases q), fun s2 _ hs => ?_⟩
      simp only [evE, hl]
      rw [hs tt, hbk]
      simp only [Option.bind_some, he, hty, hx, Option.map_some]
      rfl
    · cases h
  case store t y z =>
    simp only [evE] at h
    split at h
    · rename_i kk tt i oo hl
      simp only [Option.bind_eq_some_iff] at h
      obtain ⟨bk, hbk, e, he, ⟨ag, n⟩, hty, h⟩ := h
      obtain ⟨hc, h⟩ := bif_some h
      injection h with h
      simp only [Prod.mk.injEq] at h
      obtain ⟨rfl, rfl, rfl⟩ := h
      refine ⟨.set _ _ _, rfl, rfl, (by intro q; cases q), fun s2 _ hs => ?_⟩
      simp only [evE, hl]
      rw [hs tt, hbk]
      simp only [Option.bind_some, he, hty, hc, cond_true]
      rfl
    · cases h
  case slice t y lo hi mx =>
    simp only [evE] at h
    split at h
    · rename_i kk tt i oo hl
      simp only [Option.bind_eq_some_iff] at h
      obtain ⟨⟨len, ag, n⟩, har, bk, hbk, h⟩ := h
      obtain ⟨hmx, h⟩ := bif_some h
      rw [Option.bind_eq_some_iff] at h
      obtain ⟨⟨l, hh⟩, hb, h⟩ := h
      unfold slcArr at h
      simp only [Option.bind_eq_some_iff, Option.map_eq_some_iff] at h
      obtain ⟨e, he, els, hels, h⟩ := h
      simp only [Prod.mk.injEq] at h
      obtain ⟨rfl, rfl, rfl⟩ := h
      refine ⟨.frz _ _, rfl, rfl, (by intro q; cases q), fun s2 _ hs => ?_⟩
      simp only [evE, hl]
      rw [hs tt, hbk]
      simp only [har, Option.bind_some, hmx, cond_true, hb]
      unfold slcArr
      simp only [he, Option.bind_some, hels, Option.map_some]
      rfl
    · cases h
  case convert p q y =>
    simp only [evE] at h
    split at h
    · rename_i l hk hl
      injection h with h
      simp only [Prod.mk.injEq] at h
      obtain ⟨rfl, rfl, rfl⟩ := h
      refine ⟨.new _ _ _, rfl, rfl, (by intro q; cases q), fun s2 hkb hs => ?_⟩
      simp only [evE, hk, hl]
      rw [hkb, nw_eq hs.1]; rfl
    · cases h
  case makeSlice t l c =>
    simp only [evE] at h
    split at h
    · rename_i k1 ln k2 cn e1 e2
      simp only [Option.bind_eq_some_iff] at h
      obtain ⟨⟨ag, n⟩, he, bs, hbs, z, hz, h⟩ := h
      obtain ⟨hr, h⟩ := bif_some h
      obtain ⟨hb, h⟩ := cnd_some h
      cases mu with
      | true =>
        rw [cond_true] at h
        injection h with h
        simp only [Prod.mk.injEq] at h
        obtain ⟨rfl, rfl, rfl⟩ := h
        refine ⟨.blk _ _ _ _ _, rfl, rfl, (by intro q; cases q), fun s2 hkb hs => ?_⟩
        simp only [evE, e1, e2, he, hbs, hz, Option.bind_some, hr, cond_true, hb, cnd_true]
        rw [hkb, nw_eq hs.1]; rfl
      | false =>
        rw [cond_false] at h
        injection h with h
        simp only [Prod.mk.injEq] at h
        obtain ⟨rfl, rfl, rfl⟩ := h
        refine ⟨.new _ _ _, rfl, rfl, (by intro q; cases q), fun s2 hkb hs => ?_⟩
        simp only [evE, e1, e2, he, hbs, hz, Option.bind_some, hr, cond_true, hb, cnd_true, cond_false]
        rw [hkb, nw_eq hs.1]; rfl
    · cases h
  case call c =>
    simp only [evE] at h
    split at h
    · rename_i hb
      exact (hna c rfl hb).elim
    · cases h
theorem appC_loc {k : Nat} {args : List AV} {ts : List TypeId} {s s' : St} {v : AV} {a : Acc} (h : appC P mu k args ts s = some (v, a, s')) : Loc (appC P mu k args ts) s v a s' ∨ a = .all := by
  unfold appC at h
  split at h
  · rename_i p y t t2
    simp only [Option.bind_eq_some_iff] at h
    obtain ⟨⟨ag, n⟩, hel, bs, hbs, h⟩ := h
    cases hcc : (n == 0 || !zOk P t n) with
    | true => simp only [hcc, cond_true] at h; cases h
    | false =>
      simp only [hcc, cond_false] at h
      have red : ∀ s2, appC P mu k [p, y] [t, t2] s2 = appN P mu t t2 n bs k p y s2 := fun s2 => by
        unfold appC
        simp only [hel, hbs, Option.bind_some, hcc, cond_false]
      have redZ : notInt P t2 = false → isIntT P t2 = true → ∀ s2, appC P mu k [p, y] [t, t2] s2 = appZ P mu t n bs k p y s2 := fun h1 h2 s2 => by
        rw [red]; unfold appN; rw [h1, cond_false, h2, cond_true]
      have redY : notInt P t2 = true → ∀ s2, appC P mu k [p, y] [t, t2] s2 = appY mu (elT P t) n bs k p y s2 := fun h1 s2 => by
        rw [red]; unfold appN; rw [h1, cond_true]
      unfold appN at h
      cases hni : notInt P t2 with
      | false =>
        rw [hni, cond_false] at h
        obtain ⟨hit, h⟩ := bif_some h
        left
        unfold appZ at h
        split at h
        · rename_i kk m
          obtain ⟨hc, h⟩ := cnd_some h
          rw [Option.bind_eq_some_iff] at h
          obtain ⟨z, hz, h⟩ := h
          obtain ⟨E, h1, h2, h3, h4⟩ := app_loc h
          refine ⟨E, h1, h2, h3, fun s2 hkb hs => ?_⟩
          rw [redZ hni hit]
          unfold appZ
          simp only [hc, cnd_true, hz, Option.bind_some]
          exact h4 s2 hkb hs
        · cases h
      | true =>
      rw [hni, cond_true] at h
      unfold appY at h
      split at h
      · right
        rw [Option.bind_eq_some_iff] at h
        obtain ⟨b, _, h⟩ := h
        obtain ⟨_, h⟩ := cnd_some h
        obtain ⟨_, h⟩ := bif_some h
        rw [Option.map_eq_some_iff] at h
        obtain ⟨_, _, h⟩ := h
        simp only [Prod.mk.injEq] at h
        exact h.2.1.symm
      · rename_i hy
        left
        obtain ⟨E, h1, h2, h3, h4⟩ := app_loc h
        refine ⟨E, h1, h2, h3, fun s2 hkb hs => ?_⟩
        rw [redY hni]
        unfold appY
        split
        · exact (hy _ _ _ _ _ _ rfl).elim
        · exact h4 s2 hkb hs
  · cases h
/-- Of the frame, appending changes nothing, nor does it see it. -/
theorem appC_tm {k : Nat} {args : List AV} {ts : List TypeId} {s : St} (t : List AV) : appC P mu k args ts { s with tm := t } = (appC P mu k args ts s).map fun r => (r.1, r.2.1, { r.2.2 with tm := t }) := by
  have happT : ∀ (ty : TypeId) (n n' : Nat) (els ds : List AV) (tok : Tok), appT mu ty n n' k els ds tok { s with tm := t } = (appT mu ty n n' k els ds tok s).map fun r => (r.1, r.2.1, { r.2.2 with tm := t }) := fun ty n n' els ds tok => by
    unfold appT
    cases tok with
    | full => cases mu <;> rfl
    | own k' g =>
      simp only
      cases (hasTk k' g els.length ty s.lv && n' == n) <;> rfl
    | no => rfl
  have happH : ∀ (ty : TypeId) (n k' g lo len : Nat) (ds : List AV), appH ty n k' g lo len ds { s with tm := t } = (appH ty n k' g lo len ds s).map fun r => (r.1, r.2.1, { r.2.2 with tm := t }) := fun ty n k' g lo len ds => by
    unfold appH
    rw [show St.blk { s with tm := t } k' g = s.blk k' g from rfl]
    cases s.blk k' g with
    | none => rfl
    | some b =>
      rw [Option.bind_some, Option.bind_some]
      cases decide (lo = 0 ∧ len ≤ b.els.length) <;> cases (b.n == n && (b.ty == ty && (!b.va && !b.fz))) <;> rfl
  have happ : ∀ (ty : TypeId) (n bs : Nat) (p y : AV), app mu ty n bs k p y { s with tm := t } = (app mu ty n bs k p y s).map fun r => (r.1, r.2.1, { r.2.2 with tm := t }) := fun ty n bs p y => by
    unfold app
    split
    · rename_i nil n' els tok
      cases elemsOf n y with
      | none => rfl
      | some ds =>
        rw [Option.bind_some, Option.bind_some, happT]
        cases (decide ((els.length + ds.length + 1) * (bs + 1) ≤ 2 ^ 36) && (els.isEmpty || n' == n)) <;> cases (ds.isEmpty && isFree tok) <;> rfl
    · rename_i k' g n' lo len full
      cases elemsOf n y with
      | none => rfl
      | some ds =>
        rw [Option.bind_some, Option.bind_some, happH]
        cases (decide ((len + ds.length + 1) * (bs + 1) ≤ 2 ^ 36) && n' == n) <;> cases ds.isEmpty <;> rfl
    · rfl
  unfold appC
  split
  · rename_i p y t1 t2
    cases eli P t1 with
    | none => rfl
    | some q =>
      obtain ⟨ag, n⟩ := q
      rw [Option.bind_some, Option.bind_some]
      cases bytesOf P t1 with
      | none => rfl
      | some bs =>
        simp only [Option.bind_some]
        cases (n == 0 || !zOk P t1 n) with
        | true => rfl
        | false =>
          rw [cond_false, cond_false]
          unfold appN
          cases notInt P t2 with
          | false =>
            rw [cond_false, cond_false]
            cases isIntT P t2 with
            | false => rfl
            | true =>
              rw [cond_true, cond_true]
              unfold appZ
              split
              · rename_i kk m
                cases zerE P t1 with
                | none => rw [Option.bind_none, Option.bind_none]; cases decide (0 ≤ m ∧ m.toNat * (bs + 1) ≤ 2 ^ 36) <;> rfl
                | some z =>
                  rw [Option.bind_some, Option.bind_some, happ]
                  cases decide (0 ≤ m ∧ m.toNat * (bs + 1) ≤ 2 ^ 36) <;> rfl
              · rfl
          | true =>
          rw [cond_true, cond_true]
          unfold appY
          split
          · rename_i k' g n' lo len full
            rw [show St.blk { s with tm := t } k' g = s.blk k' g from rfl]
            cases s.blk k' g with
            | none => rfl
            | some b =>
              rw [Option.bind_some, Option.bind_some, happ]
              cases decide (lo + len ≤ b.els.length) <;> cases (n' == n && b.n == n) <;> first | rfl | skip
              rw [cnd_true, cnd_true, cond_true, cond_true, Option.map_map, Option.map_map]
              rfl
          · exact happ _ _ _ _ _
  · rfl
theorem evV_loc {ρ : Operand → AV} {op : Op} {d : Option Tmp} {s s' : St} {v : AV} {a : Acc} (h : evV P mu d ρ s op = some (v, a, s')) : Loc (fun s => evV P mu d ρ s op) s v a s' ∨ (a = .all ∧ ∃ c, op = .call c ∧ c.callee = .builtin .append) := by
  unfold evV at h
  cases hc : isE P ρ op with
  | true =>
    rw [hc] at h
    by_cases hap : ∃ c, op = .call c ∧ c.callee = .builtin .append
    · obtain ⟨c, rfl, hcb⟩ := hap
      have he : ∀ s2, evE P mu d ρ s2 (.call c) = appC P mu (s2.kb + d.getD 0) (c.args.toList.map ρ) c.argTypes.toList s2 := fun s2 => by
        simp only [evE, hcb]
      rw [cnd_true, he] at h
      rcases appC_loc h with ⟨E, h1, h2, h3, h4⟩ | h1
      · left
        refine ⟨E, h1, h2, h3, fun s2 hk hs => ?_⟩
        show evV P mu d ρ s2 (.call c) = _
        unfold evV
        rw [hc, cnd_true, he, hk]; exact h4 s2 hk hs
      · exact .inr ⟨h1, c, rfl, hcb⟩
    left
    obtain ⟨E, h1, h2, h3, h4⟩ := evE_loc (fun c h1 h2 => hap ⟨c, h1, h2⟩) h
    refine ⟨E, h1, h2, h3, fun s2 hk hs => ?_⟩
    show evV P mu d ρ s2 op = _
    unfold evV
    rw [hc]; exact h4 s2 hk hs
  | false =>
    rw [hc, cnd_false, Option.map_eq_some_iff] at h
    obtain ⟨y, hy, h⟩ := h
    unfold noE at h
    simp only [Prod.mk.injEq] at h
    obtain ⟨rfl, rfl, rfl⟩ := h
    refine .inl ⟨.id, rfl, trivial, (by intro q; cases q), fun s2 hk hs => ?_⟩
    show evV P mu d ρ s2 op = _
    unfold evV
    rw [hc, cnd_false, hy]; rfl
end
end Go.Ev
