/-
  The operations that do not look at the call's own state are sound: addresses, parts, loads; no condition.
-/
import Derived.Test.YtjfpcgkgdajcfaaGreatDoorEvP
namespace Go.Ev
open Go Go.RowKit

section
variable {P : Program} {w : World} {g : G} {x : AV}
theorem run_asIntOf {k : IntKind} {n : Int} : (asIntOf (.int k n)).run P w = .ok (k, n) w := rfl
/-- An element of a slice. -/
theorem y_indexAddr_sl {t : TypeId} {nl : Bool} {n : Nat} {ag : Bool} {els : List AV} {tok : Tok} {z : Value} {k : IntKind} {j : Int} {e : AV} (hz : Rep g (.sl nl n els tok) z)
    (ht : eli P t = some (ag, n)) (hj : 0 ≤ j ∧ j < els.length) (he : els[j.toNat]? = some e) : Yld P g w (Instr.indexAt t z (.int k j)) (.ep e) := by
  obtain ⟨et, hu, hty⟩ := eli_parts ht
  cases hz with
  | slNil => exact absurd hj (by rintro ⟨h1, h2⟩; simp only [List.length_nil, Int.natCast_zero] at h2; omega)
  | sl _ _ _ a cap f hs hn h1 h2 hc htk =>
    have hm := List.mem_of_getElem? he
    obtain ⟨hl, hcell⟩ := AV.row_iff.1 (hn e hm)
    have hlt : j.toNat < els.length := by omega
    refine ⟨.pointer (some (a.add (j.toNat * n))), ?_, ?_⟩
    · unfold Instr.indexAt
      rw [run_bind, run_asIntOf]
      simp only
      rw [run_bind, run_underlying hu]
      simp only
      rw [run_bind, run_pure]
      simp only
      rw [run_bind, run_underlying hu]
      simp only
      rw [if_pos hj, run_bind, run_sizeOf hty]
      rfl
    · rw [add_addr a hs]
      refine .ep e _ (f j.toNat) rfl hcell (fun i hi => ?_) (fun i c hc => h2 _ i e c he hc)
      have := h1 j.toNat i hlt (by omega)
      rw [← Nat.add_assoc] at this
      exact this
theorem y_indexAddr_hs {t : TypeId} {kk tt lo len : Nat} {full : Bool} {n : Nat} {ag : Bool} {z : Value} {k : IntKind} {j : Int} (hz : Rep g (.hs kk tt n lo len full) z)
    (ht : eli P t = some (ag, n)) (hj : 0 ≤ j ∧ j < len) : Yld P g w (Instr.indexAt t z (.int k j)) (.pt kk tt (lo + j.toNat) 0) := by
  obtain ⟨et, hu, hty⟩ := eli_parts ht
  cases hz with
  | hs _ _ _ _ _ _ b lim cap he hc hl hf =>
    refine ⟨.pointer (some (Addr.add ⟨b, lo * n, none⟩ (j.toNat * n))), ?_, ?_⟩
    · unfold Instr.indexAt
      rw [run_bind, run_asIntOf]
      simp only
      rw [run_bind, run_underlying hu]
      simp only
      rw [run_bind, run_pure]
      simp only
      rw [run_bind, run_underlying hu]
      simp only
      rw [if_pos hj, run_bind, run_sizeOf hty]
      rfl
    · rw [add_addr _ rfl]
      have := Rep.pt (g := g) kk tt (lo + j.toNat) 0 b n lim he
      rw [Nat.add_zero, Nat.add_mul] at this
      exact this
theorem run_indexAt_arr {t : TypeId} {len et n : Nat} {ag : Bool} {a : Addr} {k : IntKind} {j : Int} (hu : P.underlying t = some (.array len et)) (hty : tyi P et = some (ag, n)) (hj : 0 ≤ j ∧ j < len) :
    (Instr.indexAt t (.pointer (some a)) (.int k j)).run P w = .ok (.pointer (some (a.add (j.toNat * n)))) w := by
  unfold Instr.indexAt
  rw [run_bind, run_asIntOf]
  simp only
  rw [run_bind, run_underlying hu]
  simp only
  rw [run_bind]
  simp only [Instr.sureAddr, run_pure]
  rw [run_bind]
  simp only [run_pure]
  rw [run_bind, run_underlying hu]
  simp only
  rw [if_pos hj, run_bind, run_sizeOf hty]
  rfl
theorem y_indexAddr_pt {t : TypeId} {kk tt i o len n : Nat} {ag : Bool} {z : Value} {k : IntKind} {j : Int} (hz : Rep g (.pt kk tt i o) z) (ht : ari P t = some (len, ag, n)) (hj : 0 ≤ j ∧ j < len) :
    Yld P g w (Instr.indexAt t z (.int k j)) (.pt kk tt i (o + j.toNat * n)) := by
  obtain ⟨et, hu, hty⟩ := ari_parts ht
  cases hz with
  | pt _ _ _ _ b m lim h =>
    refine ⟨_, run_indexAt_arr hu hty hj, ?_⟩
    rw [add_addr _ rfl]
    have := Rep.pt (g := g) kk tt i (o + j.toNat * n) b m lim h
    rw [← Nat.add_assoc] at this
    exact this
theorem y_indexAddr_ep {t : TypeId} {e y : AV} {len n : Nat} {ag : Bool} {z : Value} {k : IntKind} {j : Int} (hz : Rep g (.ep e) z) (ht : ari P t = some (len, ag, n)) (hj : 0 ≤ j ∧ j < len) (hy : prt ag (j.toNat * n) n e.cells = some y) :
    Yld P g w (Instr.indexAt t z (.int k j)) (.ep y) := by
  obtain ⟨et, hu, hty⟩ := ari_parts ht
  have hz' := hz
  cases hz with
  | ep _ a f hs hall hfz hr => exact ⟨_, run_indexAt_arr hu hty hj, Rep.ep_prt hz' hy⟩
theorem run_fieldPlace {a : Addr} {f : Field} {ag : Bool} {n : Nat} (hn : tyi P f.type = some (ag, n)) (h0 : n ≠ 0) : (fieldPlace a f).run P w = .ok (a.add f.offset) w := by
  unfold fieldPlace
  rw [run_bind, run_sizeOf hn]
  simp only [if_neg h0]
  rfl
theorem run_fieldAt {t : TypeId} {fi o n : Nat} {ag : Bool} {a : Addr} (hf : fldi P t fi = some (o, ag, n)) (h0 : n ≠ 0) : (Instr.fieldAt t (.pointer (some a)) fi).run P w = .ok (.pointer (some (a.add o))) w := by
  obtain ⟨fs, f, hu, hfs, rfl, hty⟩ := fldi_parts hf
  unfold Instr.fieldAt
  rw [run_bind, run_underlying hu]
  simp only [hfs, Instr.sureAddr]
  rw [run_bind]
  simp only [run_pure]
  rw [run_bind, run_fieldPlace hty h0]
  rfl
theorem y_fieldAddr_ep {t : TypeId} {fi o n : Nat} {ag : Bool} {e y : AV} {z : Value} (hz : Rep g (.ep e) z) (hf : fldi P t fi = some (o, ag, n)) (h0 : n ≠ 0) (hy : prt ag o n e.cells = some y) : Yld P g w (Instr.fieldAt t z fi) (.ep y) := by
  have hz' := hz
  cases hz with
  | ep _ a f hs hall hfz hr => exact ⟨_, run_fieldAt hf h0, Rep.ep_prt hz' hy⟩
theorem y_fieldAddr_pt {t : TypeId} {fi o' n : Nat} {ag : Bool} {kk tt i o : Nat} {z : Value} (hz : Rep g (.pt kk tt i o) z) (hf : fldi P t fi = some (o', ag, n)) (h0 : n ≠ 0) : Yld P g w (Instr.fieldAt t z fi) (.pt kk tt i (o + o')) := by
  cases hz with
  | pt _ _ _ _ b m lim h =>
    refine ⟨_, run_fieldAt hf h0, ?_⟩
    rw [add_addr _ rfl]
    have := Rep.pt (g := g) kk tt i (o + o') b m lim h
    rw [← Nat.add_assoc] at this
    exact this
theorem run_loadCellsFrom (a : Addr) (f : Nat → Value) : ∀ (n i : Nat) (acc : Array Value), (∀ j, j < n → w.cell? (a.add (i + j)) = some (f (i + j))) →
    (loadCellsFrom a i n acc).run P w = .ok (acc ++ ((List.range n).map fun j => f (i + j)).toArray) w := by
  intro n
  induction n with
  | zero => intro i acc _; simp [loadCellsFrom, pure]
  | succ n ih =>
    intro i acc h
    unfold loadCellsFrom
    rw [run_bind]
    have h0 := h 0 (by omega)
    rw [Nat.add_zero] at h0
    have hl : (load (a.add i)).run P w = .ok (f i) w := by
      unfold load
      simp only [Sem.run, h0]
    rw [hl]
    simp only
    rw [ih (i + 1) _ (fun j hj => by have := h (j + 1) (by omega); rw [show i + 1 + j = i + (j + 1) by omega]; exact this)]
    congr 1
    rw [List.range_succ_eq_map, List.map_cons, List.map_map]
    apply Array.ext'
    simp
    intro j _
    congr 1
    omega
theorem run_loadCells (a : Addr) (f : Nat → Value) (n : Nat) (h : ∀ j, j < n → w.cell? (a.add j) = some (f j)) :
    (loadCells a n).run P w = .ok ((List.range n).map f).toArray w := by
  unfold loadCells
  rw [run_loadCellsFrom a f n 0 #[] (fun j hj => by rw [Nat.zero_add]; exact h j hj)]
  congr 1
  apply Array.ext'
  simp
/-- Cells that lie in memory, read. -/
theorem load_sound {t : TypeId} {ag : Bool} {n o : Nat} {cs : List AV} {a : Addr} {f : Nat → Value} (hs : a.spot = none) (ht : tyi P t = some (ag, n))
    (h1 : ∀ j, j < cs.length → w.cell? ⟨a.block, a.off + j, none⟩ = some (f j)) (h2 : ∀ (j : Nat) (c : AV), cs[j]? = some c → Rep g c (f j)) (hx : prt ag o n cs = some x) :
    Yld P g w (loadVar t (a.add o)) x := by
  have hcell : ∀ j, o + j < cs.length → w.cell? ((a.add o).add j) = some (f (o + j)) := fun j hj => by
    rw [add_addr a hs, add_addr _ rfl]
    have := h1 (o + j) hj
    rw [← Nat.add_assoc] at this; exact this
  unfold loadVar
  refine ?_
  cases ag with
  | true =>
    obtain ⟨hle, rfl⟩ := prt_true hx
    refine ⟨.agg ((List.range n).map fun j => f (o + j)).toArray, ?_, .agg _ _ (by simp; omega) (fun i p q hp hq => ?_)⟩
    · rw [run_bind, run_isAgg ht]
      simp only [if_true]
      rw [run_bind, run_sizeOf ht]
      simp only
      rw [run_bind, run_loadCells (a.add o) (fun j => f (o + j)) n (fun j hj => hcell j (by omega))]
      rfl
    · rw [List.getElem?_take] at hp
      split at hp
      · rename_i hi
        rw [List.getElem?_drop] at hp
        rw [List.getElem?_toArray, List.getElem?_map, List.getElem?_range hi] at hq
        injection hq with hq
        subst hq
        exact h2 _ p hp
      · cases hp
  | false =>
    have hx := prt_false hx
    have ho : o < cs.length := (List.getElem?_eq_some_iff.1 hx).1
    have hc := hcell 0 (by omega)
    rw [show (a.add o).add 0 = a.add o by simp [Addr.add], Nat.add_zero] at hc
    refine ⟨f o, ?_, h2 o x hx⟩
    rw [run_bind, run_isAgg ht]
    simp only [Bool.false_eq_true, if_false]
    unfold load
    simp only [Sem.run, hc]
theorem run_loadAt {t : TypeId} {a : Addr} : (Instr.loadAt t (.pointer (some a))).run P w = (loadVar t a).run P w := by
  unfold Instr.loadAt
  rw [run_bind]
  rfl
theorem y_load_ep {t : TypeId} {ag : Bool} {n : Nat} {e : AV} {z : Value} (hw : ∀ b o v, g.fz b o = some v → w.cell? ⟨b, o, none⟩ = some v) (hz : Rep g (.ep e) z) (ht : tyi P t = some (ag, n)) (hx : prt ag 0 n e.cells = some x) :
    Yld P g w (Instr.loadAt t z) x := by
  cases hz with
  | ep _ a f hs hall hfz hr =>
    obtain ⟨v, h1, h2⟩ := load_sound (P := P) hs ht (fun j hj => hw _ _ _ (hfz j hj)) hr hx
    rw [show a.add 0 = a by simp [Addr.add]] at h1
    exact ⟨v, by rw [run_loadAt]; exact h1, h2⟩
theorem y_load_pt {t : TypeId} {ag : Bool} {B n kk tt i o b lim : Nat} {e : AV} {bk : Blk} {z : Value} (hw : Own g w B bk b lim) (hg : bk.g = tt) (hz : Rep g (.pt kk tt i o) z) (he : bk.els[i]? = some e) (ht : tyi P t = some (ag, n)) (hx : prt ag o n e.cells = some x) :
    Yld P g w (Instr.loadAt t z) x := by
  cases hz with
  | pt _ _ _ _ b' m lim' h =>
    subst hg
    have h' := hw.eta
    rw [h] at h'; injection h' with h'; simp only [Prod.mk.injEq] at h'; obtain ⟨rfl, rfl, rfl⟩ := h'
    have hrow := (AV.row_iff.1 (hw.rows e (List.mem_of_getElem? he)))
    have hsome : ∀ j, j < e.cells.length → ∃ v, w.cell? ⟨b', i * bk.n + j, none⟩ = some v ∧ ∀ c, e.cells[j]? = some c → Rep g c v := fun j hj => by
      obtain ⟨v, h1, h2⟩ := hw.cell i j e _ he (List.getElem?_eq_getElem hj)
      exact ⟨v, h1, fun c hc => by rw [List.getElem?_eq_getElem hj] at hc; injection hc with hc; subst hc; exact h2⟩
    obtain ⟨v, h1, h2⟩ := load_sound (P := P) (w := w) (g := g) (a := ⟨b', i * bk.n, none⟩) (f := fun j => (w.cell? ⟨b', i * bk.n + j, none⟩).getD Go.undef) rfl ht
      (fun j hj => by obtain ⟨v, h1, _⟩ := hsome j hj; simp only [h1, Option.getD_some])
      (fun j c hc => by obtain ⟨v, h1, h2⟩ := hsome j (List.getElem?_eq_some_iff.1 hc).1; simp only [h1, Option.getD_some]; exact h2 c hc) hx
    rw [add_addr _ rfl] at h1
    exact ⟨v, by rw [run_loadAt]; exact h1, h2⟩
theorem run_sliceBound {v : Value} {k : IntKind} {n : Int} {y : Nat} {code : BoundsCode} (hv : v = .int k n) (h : 0 ≤ n ∧ n ≤ y) : (Instr.sliceBound v y code).run P w = .ok n.toNat w := by
  subst hv
  unfold Instr.sliceBound
  rw [run_bind, run_asIntOf]
  simp only
  rw [if_pos h]
  rfl
def IdxRep (y : Option Value) (d n : Int) : Prop := (y = none ∧ n = d) ∨ ∃ k, y = some (.int k n)
theorem idx_rep {lo : Option AV} {lo' : Option Value} {d n : Int} (hr : ∀ a b, lo = some a → lo' = some b → Rep g a b) (hl : lo.isSome = lo'.isSome) (h : idx lo d = some n) : IdxRep lo' d n := by
  cases lo with
  | none =>
    simp only [idx] at h; injection h with h
    cases lo' with
    | none => exact .inl ⟨rfl, h.symm⟩
    | some b => cases hl
  | some y =>
    simp only [idx] at h
    cases lo' with
    | none => cases hl
    | some b =>
      obtain ⟨k, hk⟩ := asI_rep (hr y b rfl rfl) h
      exact .inr ⟨k, by rw [hk]⟩
/-- Bounds without a third index: the capacity's end is cap. -/
theorem run_bounds {isS : Bool} {lo hi : Option Value} {l h : Int} {len cap : Nat} (h1 : IdxRep lo 0 l) (h2 : IdxRep hi len h) (hb : 0 ≤ l ∧ l ≤ h ∧ h ≤ len) (hc : len ≤ cap) :
    (Instr.sliceBounds isS len cap lo hi none).run P w = .ok (l.toNat, h.toNat, cap) w := by
  unfold Instr.sliceBounds
  rw [run_bind]
  simp only [run_pure]
  rcases h2 with ⟨rfl, e2⟩ | ⟨k, rfl⟩
  · subst e2
    simp only
    rw [run_bind]
    simp only [run_pure]
    rcases h1 with ⟨rfl, e1⟩ | ⟨k, rfl⟩
    · subst e1
      simp only
      rw [run_bind]
      rfl
    · simp only
      rw [run_bind, run_sliceBound (k := k) (n := l) rfl ⟨hb.1, hb.2.1⟩]
      rfl
  · simp only
    rw [run_bind, run_sliceBound (k := k) (n := h) rfl ⟨by omega, by omega⟩]
    simp only
    rcases h1 with ⟨rfl, e1⟩ | ⟨k, rfl⟩
    · subst e1
      simp only
      rw [run_bind]
      rfl
    · simp only
      rw [run_bind, run_sliceBound (k := k) (n := l) rfl ⟨hb.1, by omega⟩]
      rfl
theorem run_bounds3 {isS : Bool} {lo hi : Option Value} {l h m : Int} {k : IntKind} {len cap : Nat} (h1 : IdxRep lo 0 l) (h2 : ∃ k, hi = some (.int k h)) (hb : 0 ≤ l ∧ l ≤ h ∧ h ≤ len) (hm : m = h) (hc : len ≤ cap) :
    (Instr.sliceBounds isS len cap lo hi (some (.int k m))).run P w = .ok (l.toNat, h.toNat, h.toNat) w := by
  subst hm
  unfold Instr.sliceBounds
  rw [run_bind]
  simp only
  rw [run_sliceBound (k := k) (n := m) rfl ⟨by omega, by omega⟩]
  obtain ⟨k', rfl⟩ := h2
  simp only
  rw [run_bind, run_sliceBound (k := k') (n := m) rfl ⟨by omega, by omega⟩]
  simp only
  rcases h1 with ⟨rfl, e1⟩ | ⟨k2, rfl⟩
  · subst e1
    simp only
    rw [run_bind]
    rfl
  · simp only
    rw [run_bind, run_sliceBound (k := k2) (n := l) rfl ⟨hb.1, by omega⟩]
    rfl
end
end Go.Ev
