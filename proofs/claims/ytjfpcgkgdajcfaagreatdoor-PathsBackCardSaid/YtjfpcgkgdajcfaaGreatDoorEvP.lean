/-
  The operations that do not look at the call's own state are sound; no condition.
-/
import Derived.Test.YtjfpcgkgdajcfaaGreatDoorEvMem
namespace Go.Ev
open Go Go.RowKit

theorem run_bind {α β : Type} (P : Program) (s : Sem α) (f : α → Sem β) (w : World) : (s >>= f).run P w = match s.run P w with
    | .ok a w' => (f a).run P w'
    | .halt h w' => .halt h w' := by
  show (Sem.bind s f).run P w = _
  induction s generalizing w with
  | pure a => rfl
  | load m a k ih =>
    simp only [Sem.bind, Sem.run]
    cases w.cell? a with
    | some v => exact ih v w
    | none =>
      simp only
      cases w.farLoad P a (m == .atomic) with
      | ok r => exact ih r.1 w
      | error e => rfl
  | store m a v k ih =>
    cases v <;> simp only [Sem.bind, Sem.run] <;> first
      | rfl
      | (cases w.cell? a with
         | some x =>
           simp only
           split
           · rfl
           · exact ih _
         | none =>
           simp only
           split
           · exact ih _
           · rfl)
  | new o k ih => exact ih _ _
  | shape r k ih => exact ih _ _
  | freeze a n k ih => exact ih _
  | frozen a k ih => exact ih _ _
  | getObj r k ih =>
    simp only [Sem.bind, Sem.run]
    split
    · rfl
    · exact ih _ _
    · rfl
  | setObj r o k ih =>
    simp only [Sem.bind, Sem.run]
    split
    · rfl
    · exact ih _
    · rfl
  | choose q k ih =>
    simp only [Sem.bind, Sem.run]
    split
    · exact ih _ _
    · exact ih _ _
  | sys c k ih => exact ih _ _
  | program k ih => exact ih _ _
  | mark m k ih => exact ih _
  | halt h => rfl
theorem run_pure {α : Type} (P : Program) (a : α) (w : World) : (pure a : Sem α).run P w = .ok a w := rfl
section
variable {P : Program} {w : World}
theorem run_underlying {t : TypeId} {d : TypeDesc} (h : P.underlying t = some d) : (underlying t).run P w = .ok d w := by
  unfold underlying
  rw [run_bind]
  show (match P.underlying t with | some d => pure d | none => stuck "no such type" : Sem TypeDesc).run P w = _
  rw [h]; rfl
theorem run_typeInfo {t : TypeId} {i : TypeInfo} (h : P.info? t = some i) : (typeInfo t).run P w = .ok i w := by
  unfold typeInfo
  rw [run_bind]
  show (match P.info? t with | some i => pure i | none => stuck "no such type" : Sem TypeInfo).run P w = _
  rw [h]; rfl
theorem tyi_parts {t : TypeId} {ag : Bool} {n : Nat} (h : tyi P t = some (ag, n)) : ∃ d i, P.underlying t = some d ∧ P.info? t = some i ∧ ag = isAg d ∧ n = i.size := by
  unfold tyi at h
  rw [Option.bind_eq_some_iff] at h
  obtain ⟨d, hd, h⟩ := h
  rw [Option.map_eq_some_iff] at h
  obtain ⟨i, hi, h⟩ := h
  simp only [Prod.mk.injEq] at h
  exact ⟨d, i, hd, hi, h.1.symm, h.2.symm⟩
theorem run_sizeOf {t : TypeId} {ag : Bool} {n : Nat} (h : tyi P t = some (ag, n)) : (sizeOf t).run P w = .ok n w := by
  obtain ⟨d, i, hd, hi, _, rfl⟩ := tyi_parts h
  unfold sizeOf
  rw [run_bind, run_typeInfo hi]; rfl
theorem run_isAgg {t : TypeId} {ag : Bool} {n : Nat} (h : tyi P t = some (ag, n)) : (isAgg t).run P w = .ok ag w := by
  obtain ⟨d, i, hd, hi, rfl, _⟩ := tyi_parts h
  unfold isAgg
  rw [run_bind, run_underlying hd]
  cases d <;> rfl
theorem prt_true {off n : Nat} {cs : List AV} {x : AV} (h : prt true off n cs = some x) : off + n ≤ cs.length ∧ x = .agg ((cs.drop off).take n) := by
  unfold prt at h
  rw [cond_true] at h
  obtain ⟨h1, h2⟩ := bif_some h
  injection h2 with h2
  exact ⟨Nat.le_of_ble_eq_true h1, h2.symm⟩
theorem prt_false {off n : Nat} {cs : List AV} {x : AV} (h : prt false off n cs = some x) : cs[off]? = some x := h
/-- A part of cells stands for the part of the cells. -/
theorem prt_sound {g : G} {t : TypeId} {ag : Bool} {n : Nat} {cs : List AV} {vs : Array Value} {off : Nat} {x : AV} (ht : tyi P t = some (ag, n)) (hv : Reps g cs vs.toList) (h : prt ag off n cs = some x) :
    ∃ v, (part t vs off).run P w = .ok v w ∧ Rep g x v := by
  have hlen : vs.size = cs.length := by have := hv.1; rw [Array.length_toList] at this; exact this
  unfold part
  rw [run_bind, run_isAgg ht]
  cases ag with
  | true =>
    obtain ⟨hle, rfl⟩ := prt_true h
    simp only [if_true]
    rw [run_bind, run_sizeOf ht]
    refine ⟨_, rfl, .agg _ _ (by simp; omega) (fun i p q hp hq => ?_)⟩
    rw [List.getElem?_take] at hp
    split at hp
    · rename_i hi
      rw [List.getElem?_drop] at hp
      rw [Array.getElem?_extract] at hq
      split at hq
      · exact hv.2 (off + i) p q hp (by rw [Array.getElem?_toList]; exact hq)
      · cases hq
    · cases hp
  | false =>
    have h := prt_false h
    simp only [Bool.false_eq_true, if_false]
    have ho : off < cs.length := (List.getElem?_eq_some_iff.1 h).1
    have hv2 : vs[off]? = some vs[off] := Array.getElem?_eq_getElem (by omega)
    rw [hv2]
    exact ⟨_, rfl, hv.2 off x _ h (by rw [Array.getElem?_toList]; exact hv2)⟩
/-- It yields what x stands for, in the same world. -/
def Yld (P : Program) (g : G) (w : World) (m : Sem Value) (x : AV) : Prop := ∃ v, m.run P w = .ok v w ∧ Rep g x v
variable {g : G} {x : AV}
theorem Yld.next {m : Sem Value} (h : Yld P g w m x) : ∃ v, (do pure (Next.value (← m)) : Sem Next).run P w = .ok (.value v) w ∧ Rep g x v := by
  obtain ⟨v, h, hr⟩ := h
  exact ⟨v, by rw [run_bind, h]; rfl, hr⟩
theorem Yld.of {v : Value} (h : Rep g x v) : Yld P g w (pure v) x := ⟨v, rfl, h⟩
theorem asI_rep {y : AV} {z : Value} {n : Int} (h : Rep g y z) (hy : y.asI = some n) : ∃ k, z = .int k n := by
  unfold AV.asI at hy
  split at hy
  · injection hy with hy; subst hy; cases h; exact ⟨_, rfl⟩
  · cases hy
theorem asB_rep {y : AV} {z : Value} {n : Bool} (h : Rep g y z) (hy : y.asB = some n) : z = .bool n := by
  unfold AV.asB at hy
  split at hy
  · injection hy with hy; subst hy; cases h; rfl
  · cases hy
theorem asAgg_rep {y : AV} {z : Value} {cs : List AV} (h : Rep g y z) (hy : y.asAgg = some cs) : ∃ vs : Array Value, z = .agg vs ∧ Reps g cs vs.toList := by
  unfold AV.asAgg at hy
  split at hy
  · injection hy with hy; subst hy; exact h.reps
  · cases hy
theorem asTup_rep {y : AV} {z : Value} {cs : List AV} (h : Rep g y z) (hy : y.asTup = some cs) : ∃ vs : Array Value, z = .tuple vs ∧ Reps g cs vs.toList := by
  unfold AV.asTup at hy
  split at hy
  · injection hy with hy; subst hy; exact h.repsT
  · cases hy
theorem str_rep {z : Value} {l : List UInt8} (h : Rep g (.str l) z) : ∃ s : ByteArray, z = .string s ∧ s.data.toList = l := by
  cases h with
  | str _ s h => exact ⟨s, rfl, h⟩
theorem int_rep {z : Value} {k : IntKind} {n : Int} (h : Rep g (.int k n) z) : z = .int k n := by cases h; rfl
theorem bool_rep {z : Value} {b : Bool} (h : Rep g (.bool b) z) : z = .bool b := by cases h; rfl
/-- A field's row. -/
theorem fldi_parts {t : TypeId} {n o m : Nat} {ag : Bool} (h : fldi P t n = some (o, ag, m)) : ∃ fs f, P.underlying t = some (.struct fs) ∧ fs[n]? = some f ∧ f.offset = o ∧ tyi P f.type = some (ag, m) := by
  unfold fldi at h
  split at h
  · rename_i fs hu
    rw [Option.bind_eq_some_iff] at h
    obtain ⟨f, hf, h⟩ := h
    rw [Option.map_eq_some_iff] at h
    obtain ⟨y, hy, h⟩ := h
    simp only [Prod.mk.injEq] at h
    obtain ⟨rfl, rfl⟩ := h
    exact ⟨fs, f, hu, hf, rfl, hy⟩
  · cases h
theorem eli_parts {t : TypeId} {m : Nat} {ag : Bool} (h : eli P t = some (ag, m)) : ∃ e, P.underlying t = some (.slice e) ∧ tyi P e = some (ag, m) := by
  unfold eli at h
  split at h
  · exact ⟨_, by assumption, h⟩
  · cases h
theorem ari_parts {t : TypeId} {len m : Nat} {ag : Bool} (h : ari P t = some (len, ag, m)) : ∃ e, P.underlying t = some (.array len e) ∧ tyi P e = some (ag, m) := by
  unfold ari at h
  split at h
  · rename_i l e hu
    rw [Option.map_eq_some_iff] at h
    obtain ⟨y, hy, h⟩ := h
    simp only [Prod.mk.injEq] at h
    obtain ⟨rfl, rfl⟩ := h
    exact ⟨e, hu, hy⟩
  · cases h
theorem y_field {t : TypeId} {n o m : Nat} {ag : Bool} {cs : List AV} {z : Value} (hz : ∃ vs : Array Value, z = .agg vs ∧ Reps g cs vs.toList) (hf : fldi P t n = some (o, ag, m)) (hx : prt ag o m cs = some x) : Yld P g w (Instr.field t z n) x := by
  obtain ⟨vs, rfl, hv⟩ := hz
  obtain ⟨fs, f, hu, hfs, rfl, hty⟩ := fldi_parts hf
  obtain ⟨v, h1, h2⟩ := prt_sound (w := w) hty hv hx
  refine ⟨v, ?_, h2⟩
  unfold Instr.field
  rw [run_bind, run_underlying hu]
  simp only [hfs]
  exact h1
theorem y_extract {n : Nat} {cs : List AV} {z : Value} (hz : ∃ vs : Array Value, z = .tuple vs ∧ Reps g cs vs.toList) (hx : cs[n]? = some x) : Yld P g w (Instr.extract z n) x := by
  obtain ⟨vs, rfl, hv⟩ := hz
  have hl : vs.size = cs.length := by have := hv.1; rw [Array.length_toList] at this; exact this
  have hn : n < cs.length := (List.getElem?_eq_some_iff.1 hx).1
  have hv2 : vs[n]? = some vs[n] := Array.getElem?_eq_getElem (by omega)
  refine ⟨vs[n], ?_, hv.2 n x _ hx (by rw [Array.getElem?_toList]; exact hv2)⟩
  unfold Instr.extract
  simp only [hv2]; rfl
theorem y_makeInterface {t : TypeId} {z : Value} (hz : Rep g x z) (hc : conc P t = true) : Yld P g w (Instr.makeInterface t z) (.ifc t x) := by
  refine ⟨.iface t z, ?_, .ifc t x z hz⟩
  unfold conc at hc
  unfold Instr.makeInterface
  rw [run_bind]
  split at hc
  · cases hc
  · cases hc
  · rename_i d hd hu
    rw [run_underlying hu]
    cases d <;> first | rfl | (exfalso; exact hd _ rfl)
theorem bool_of {b : Bool} : Rep g (.bool b) (.bool b) := .bool b
theorem y_iBin {op : BinOp} {k : IntKind} {a b : Int} (hs : isSh op = false) (h : iBin op k a b = some x) (t : TypeId) : Yld P g w (binOp op t (.int k a) (.int k b)) x := by
  have hm : binOp op t (.int k a) (.int k b) = (match op with
    | .add | .sub | .mul => Op.intArith op k a b
    | .quo | .rem => Op.intDiv op k a b
    | .and | .or | .xor | .andNot => Op.intBits op k a b
    | _ => Op.intCmp op a b) := by
    cases op <;> first | (cases hs; done) | (unfold binOp; simp only [ne_eq, not_true_eq_false, if_false])
  rw [hm]
  unfold iBin at h
  cases op <;> simp only at h ⊢ <;> first
    | (injection h with h; subst h; exact Yld.of (.int _ _))
    | (injection h with h; subst h; exact Yld.of bool_of)
    | (obtain ⟨h0, h⟩ := cnd_none h; injection h with h; subst h
       have h1 : ¬ b = 0 := by simpa using h0
       unfold Op.intDiv
       rw [if_neg h1]
       exact Yld.of (.int _ _))
    | (cases h; done)
theorem y_iShift {op : BinOp} {k k' : IntKind} {a b : Int} (h : iShift op k a b = some x) (t : TypeId) : Yld P g w (binOp op t (.int k a) (.int k' b)) x := by
  unfold iShift at h
  cases op <;> simp only at h <;> first
    | (cases h; done)
    | (obtain ⟨h0, h⟩ := cnd_none h; injection h with h; subst h
       have h1 : ¬ b < 0 := by simpa using h0
       unfold binOp Op.shift
       simp only [if_neg h1]
       exact Yld.of (.int _ _))
theorem toList_data (s : ByteArray) : s.toList = s.data.toList := by
  have key : ∀ (n i : Nat) (r : List UInt8), s.size - i = n → ByteArray.toList.loop s i r = r.reverse ++ s.data.toList.drop i := by
    intro n
    induction n with
    | zero =>
      intro i r hi
      have hs : s.data.size = s.size := rfl
      rw [ByteArray.toList.loop, if_neg (by omega), List.drop_eq_nil_of_le (by simp; omega), List.append_nil]
    | succ n ih =>
      intro i r hi
      have hs : s.data.size = s.size := rfl
      rw [ByteArray.toList.loop, if_pos (by omega), ih _ _ (by omega), List.reverse_cons, List.append_assoc, List.singleton_append]
      congr 1
      have hlt : i < s.data.toList.length := by simp; omega
      rw [List.drop_eq_getElem_cons hlt]
      congr 1
      show s.data[i]! = _
      rw [getElem!_pos s.data i (by omega)]
      simp
  have := key s.size 0 [] (by omega)
  simpa [ByteArray.toList] using this
theorem data_append (a b : ByteArray) : (a ++ b).data.toList = a.data.toList ++ b.data.toList := by
  simp
theorem size_data (a : ByteArray) : a.data.toList.length = a.size := by
  simp
theorem y_sBin {op : BinOp} {a b : ByteArray} (h : sBin op a.data.toList b.data.toList = some x) (t : TypeId) : Yld P g w (binOp op t (.string a) (.string b)) x := by
  have hm : (match op with | .shl | .shr => True | _ => False) ∨ binOp op t (.string a) (.string b) = Op.stringOp op a b := by
    cases op <;> first | exact .inl trivial | (right; unfold binOp; rfl)
  rcases hm with hm | hm
  · cases op <;> first | (cases hm; done) | (unfold sBin at h; cases h; done)
  · rw [hm]
    unfold sBin at h
    unfold Op.stringOp
    simp only [toList_data]
    cases op <;> simp only at h ⊢ <;> first
      | (injection h with h; subst h; exact Yld.of bool_of)
      | (obtain ⟨h0, h⟩ := cnd_some h; injection h with h; subst h
         have h1 : a.data.toList.length + b.data.toList.length < 2 ^ 62 := by simpa using h0
         rw [size_data, size_data] at h1
         have h2 : ¬ ((a.size + b.size : Nat) : Int) > IntKind.i64.max := by
           have : IntKind.i64.max = 9223372036854775807 := by decide
           rw [this]; omega
         rw [if_neg h2]
         exact Yld.of (.str _ _ (data_append a b)))
      | (cases h; done)
theorem y_uny {op : UnOp} {y : AV} {z : Value} (hz : Rep g y z) (h : uny op y = some x) : Yld P g w (Op.unary op z) x := by
  unfold uny at h
  split at h
  · obtain rfl := int_rep hz
    injection h with h; subst h
    unfold Op.unary Op.intArith
    exact Yld.of (.int _ _)
  · obtain rfl := bool_rep hz
    injection h with h; subst h
    unfold Op.unary
    exact Yld.of bool_of
  · obtain rfl := int_rep hz
    injection h with h; subst h
    unfold Op.unary Op.intBits
    exact Yld.of (.int _ _)
  · cases h
theorem add_addr (a : Addr) (hs : a.spot = none) (n : Nat) : a.add n = ⟨a.block, a.off + n, none⟩ := by
  unfold Addr.add
  split
  · rename_i h; subst h; cases a; simp at hs; subst hs; rfl
  · rfl
/-- A pointer into what never changes, to a part of it. -/
theorem Rep.ep_prt {e y : AV} {a : Addr} {ag : Bool} {o n : Nat} (h : Rep g (.ep e) (.pointer (some a))) (hy : prt ag o n e.cells = some y) : Rep g (.ep y) (.pointer (some (a.add o))) := by
  cases h with
  | ep _ _ f hs hall hfz hr =>
    rw [add_addr a hs]
    cases ag with
    | true =>
      obtain ⟨hle, rfl⟩ := prt_true hy
      have hl : ((e.cells.drop o).take n).length = n := by simp; omega
      refine .ep _ _ (fun i => f (o + i)) rfl ?_ (fun j hj => ?_) (fun j c hc => ?_)
      · rw [List.all_eq_true] at hall ⊢
        exact fun c hc => hall c (List.mem_of_mem_drop (List.mem_of_mem_take hc))
      · change j < ((e.cells.drop o).take n).length at hj
        rw [hl] at hj
        have := hfz (o + j) (by omega)
        rw [← Nat.add_assoc] at this; exact this
      · change ((e.cells.drop o).take n)[j]? = some c at hc
        rw [List.getElem?_take] at hc
        split at hc
        · rw [List.getElem?_drop] at hc
          exact hr _ c hc
        · cases hc
    | false =>
      have hy := prt_false hy
      have hcell : AV.isCell y = true := List.all_eq_true.1 hall y (List.mem_of_getElem? hy)
      have hyc : y.cells = [y] := by cases y <;> first | rfl | cases hcell
      have ho : o < e.cells.length := (List.getElem?_eq_some_iff.1 hy).1
      refine .ep _ _ (fun i => f (o + i)) rfl (by rw [hyc]; simp [hcell]) (fun j hj => ?_) (fun j c hc => ?_)
      · rw [hyc] at hj
        have : j = 0 := by simpa using hj
        subst this
        exact hfz o ho
      · rw [hyc] at hc
        cases j with
        | zero => simp at hc; subst hc; exact hr o y hy
        | succ j => simp at hc
end
end Go.Ev
