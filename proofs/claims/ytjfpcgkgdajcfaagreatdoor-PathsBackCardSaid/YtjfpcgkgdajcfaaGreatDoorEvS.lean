/-
  The operations that do not look at the call's own state are sound: parts, structs, functions, lengths; no condition.
-/
import Derived.Test.YtjfpcgkgdajcfaaGreatDoorEvQ
namespace Go.Ev
open Go Go.RowKit

section
variable {P : Program} {w : World} {g : G} {x : AV}
theorem sub_len {α : Type} (l h : Nat) (xs : List α) (hh : h ≤ xs.length) : (sub l h xs).length = h - l := by
  unfold sub; simp; omega
theorem sub_get {α : Type} {l h i : Nat} {xs : List α} {e : α} (he : (sub l h xs)[i]? = some e) : xs[l + i]? = some e ∧ l + i < h := by
  unfold sub at he
  rw [List.getElem?_drop, List.getElem?_take] at he
  split at he
  · exact ⟨he, by assumption⟩
  · cases he
theorem sub_mem {α : Type} {l h : Nat} {xs : List α} {e : α} (he : e ∈ sub l h xs) : e ∈ xs := List.mem_of_mem_take (List.mem_of_mem_drop he)
/-- A part of a slice stands for the part. -/
theorem Rep.cut {nl : Bool} {n sz : Nat} {els : List AV} {cap m l h : Nat} {tok tok' : Tok} {a : Option Addr} (hx : Rep g (.sl nl n els tok) (.slice a els.length cap)) (hsz : els.isEmpty = true ∨ sz = n) (hl : l ≤ h) (hh : h ≤ els.length) (hm : h ≤ m) (hmc : m ≤ cap)
    (ht : ∀ b : Addr, a = some b → b.spot = none → tok'.fits g (if m = l then b else b.add (l * n)) n (h - l) (m - l)) (hn : ∀ k t, nl = true → tok' ≠ .own k t) :
    Rep g (.sl nl n (sub l h els) tok') (.slice (if m = l then a else a.map (·.add (l * sz))) (h - l) (m - l)) := by
  have e := sub_len l h els hh
  cases hx with
  | slNil _ _ htn =>
    simp only [List.length_nil] at hh
    obtain rfl : h = 0 := by omega
    obtain rfl : l = 0 := by omega
    obtain rfl : m = 0 := by omega
    exact .slNil n tok' (fun k t => hn k t rfl)
  | sl _ _ _ a _ f hs hrow h1 h2 hc' htk =>
    have hadd : (if m = l then some a else Option.map (fun b : Addr => b.add (l * sz)) (some a)) = some (if m = l then a else a.add (l * n)) := by
      split
      · rfl
      · rw [Option.map_some]
        rcases hsz with hz | hz
        · have : els.length = 0 := by simpa using hz
          obtain rfl : l = 0 := by omega
          simp [Addr.add]
        · rw [hz]
    rw [hadd]
    have ht' := ht a rfl hs
    revert ht'
    generalize hb : (if m = l then a else a.add (l * n)) = b
    intro ht'
    have hspot : b.spot = none := by
      rw [← hb]; split
      · exact hs
      · rw [add_addr a hs]
    rw [← e] at ht' ⊢
    refine .sl n _ tok' b (m - l) (fun i j => f (l + i) j) hspot (fun q hq => hrow q (sub_mem hq)) (fun i j hi hj => ?_) (fun i j q c hq hc => h2 _ j q c (sub_get hq).1 hc) (by omega) ht'
    have hnl : m ≠ l := by omega
    rw [← hb, if_neg hnl, add_addr a hs]
    have := h1 (l + i) j (by omega) hj
    rw [Nat.add_mul, Nat.add_assoc (l * n), ← Nat.add_assoc a.off] at this
    exact this
theorem sl_shape {nl : Bool} {n : Nat} {els : List AV} {tok : Tok} {z : Value} (h : Rep g (.sl nl n els tok) z) : ∃ a cap, z = .slice a els.length cap ∧ els.length ≤ cap := by
  cases h with
  | slNil => exact ⟨_, _, rfl, Nat.le_refl _⟩
  | sl _ _ _ a cap f hs hn h1 h2 hc ht => exact ⟨_, _, rfl, hc⟩
theorem tok_of {nl : Bool} {n : Nat} {els : List AV} {tok : Tok} {a : Addr} {cap : Nat} (h : Rep g (.sl nl n els tok) (.slice (some a) els.length cap)) : tok.fits g a n els.length cap ∧ nl = false := by
  cases h with
  | sl _ _ _ a cap f hs hn h1 h2 hc ht => exact ⟨ht, rfl⟩
theorem nil_own {n : Nat} {els : List AV} {tok : Tok} {z : Value} (h : Rep g (.sl true n els tok) z) : ∀ k t, tok ≠ .own k t := by
  cases h with
  | slNil _ _ ht => exact ht
theorem cut_fits {tok : Tok} {a : Addr} {n len cap l h : Nat} (ht : tok.fits g a n len cap) (hl : l ≤ h) (hh : h ≤ len) (hc : len ≤ cap) : (tok.cut l h len).fits g (if cap = l then a else a.add (l * n)) n (h - l) (cap - l) := by
  unfold Tok.cut
  by_cases e : h = len
  · subst e
    rw [show (h == h) = true from beq_self_eq_true h, cond_true]
    cases tok with
    | full => simp only [Tok.fits] at ht ⊢; omega
    | no => trivial
    | own k t =>
      simp only
      by_cases e2 : l = 0
      · subst e2
        simp only [beq_self_eq_true, cond_true]
        simp only [Tok.fits, Nat.sub_zero, Nat.zero_mul] at ht ⊢
        split <;> simpa [Addr.add] using ht
      · rw [show (l == 0) = false by simpa using e2, cond_false]; trivial
  · rw [show (h == len) = false by simpa using e, cond_false]; trivial
theorem bounds_parts {len : Nat} {lo hi : Option AV} {l h : Nat} (hb : bounds len lo hi = some (l, h)) : ∃ li hj : Int, idx lo 0 = some li ∧ idx hi len = some hj ∧ (0 ≤ li ∧ li ≤ hj ∧ hj ≤ len) ∧ l = li.toNat ∧ h = hj.toNat := by
  unfold bounds at hb
  rw [Option.bind_eq_some_iff] at hb
  obtain ⟨li, h1, hb⟩ := hb
  rw [Option.bind_eq_some_iff] at hb
  obtain ⟨hj, h2, hb⟩ := hb
  obtain ⟨h3, hb⟩ := cnd_some hb
  injection hb with hb
  simp only [Prod.mk.injEq] at hb
  exact ⟨li, hj, h1, h2, by simpa using h3, hb.1.symm, hb.2.symm⟩
/-- Options of operands, as they are read. -/
def RepO (g : G) (a : Option AV) (b : Option Value) : Prop := a.isSome = b.isSome ∧ ∀ x y, a = some x → b = some y → Rep g x y
theorem RepO.idx {lo : Option AV} {lo' : Option Value} {d n : Int} (h : RepO g lo lo') (hi : Ev.idx lo d = some n) : IdxRep lo' d n := idx_rep h.2 h.1 hi
theorem RepO.some_ {m : AV} {mx' : Option Value} (h : RepO g (some m) mx') : ∃ v, mx' = some v ∧ Rep g m v := by
  cases mx' with
  | none => cases h.1
  | some v => exact ⟨v, rfl, h.2 m v rfl rfl⟩
theorem RepO.none_ {mx' : Option Value} (h : RepO g none mx') : mx' = none := by
  cases mx' with
  | none => rfl
  | some v => cases h.1
theorem y_slice_sl {t : TypeId} {nl ag : Bool} {n sz : Nat} {els : List AV} {tok : Tok} {z : Value} {lo hi mx : Option AV} {lo' hi' mx' : Option Value} {r : Nat × Nat} (hz : Rep g (.sl nl n els tok) z)
    (hlo : RepO g lo lo') (hhi : RepO g hi hi') (hmx : RepO g mx mx') (ht : eli P t = some (ag, sz)) (hb : bounds els.length lo hi = some r) (hx : slcK sz nl n els tok mx r = some x) (hh3 : mx.isSome = true → hi.isSome = true) :
    Yld P g w (Instr.sliceAt t z lo' hi' mx') x := by
  obtain ⟨et, hu, hty⟩ := eli_parts ht
  obtain ⟨l, h⟩ := r
  obtain ⟨li, hj, h1, h2, hbd, rfl, rfl⟩ := bounds_parts hb
  obtain ⟨a, cap, rfl, hcap⟩ := sl_shape hz
  unfold slcK at hx
  obtain ⟨hsz, hx⟩ := cnd_some hx
  have hsz' : els.isEmpty = true ∨ sz = n := by simpa using hsz
  have hrun : ∀ m : Nat, (Instr.sliceBounds true els.length cap lo' hi' mx').run P w = .ok (li.toNat, hj.toNat, m) w →
      (Instr.sliceAt t (.slice a els.length cap) lo' hi' mx').run P w = .ok (.slice (if m = li.toNat then a else a.map (·.add (li.toNat * sz))) (hj.toNat - li.toNat) (m - li.toNat)) w := by
    intro m hm
    unfold Instr.sliceAt
    rw [run_bind, run_underlying hu]
    simp only
    unfold Instr.slice
    rw [run_bind, run_underlying hu]
    simp only
    rw [run_bind, hm]
    simp only
    rw [run_bind, run_sizeOf hty]
    rfl
  cases mx with
  | none =>
    obtain rfl := hmx.none_
    simp only at hx
    injection hx with hx; subst hx
    refine ⟨_, hrun cap (run_bounds (hlo.idx h1) (hhi.idx h2) hbd hcap), Rep.cut hz hsz' (by omega) (by omega) (by omega) (Nat.le_refl _) (fun b hb hs => ?_) (fun k t hnl => ?_)⟩
    · subst hb
      exact cut_fits (tok_of hz).1 (by omega) (by omega) hcap
    · subst hnl
      have := nil_own hz
      unfold Tok.cut
      cases tok with
      | own k t => exact absurd rfl (this k t)
      | full => cases (hj.toNat == els.length) <;> simp
      | no => cases (hj.toNat == els.length) <;> simp
  | some m =>
    obtain ⟨v, rfl, hv⟩ := hmx.some_
    simp only [Option.bind_eq_some_iff] at hx
    obtain ⟨mi, hmi, hx⟩ := hx
    obtain ⟨hme, hx⟩ := cnd_some hx
    injection hx with hx; subst hx
    obtain ⟨k, rfl⟩ := asI_rep hv hmi
    have hhs := hh3 rfl
    have hme' : mi = hj := by have : mi = (hj.toNat : Int) := by simpa using hme
                              omega
    obtain ⟨hv', rfl⟩ := Option.isSome_iff_exists.1 hhs
    obtain ⟨v2, rfl, hv2⟩ := hhi.some_
    simp only [Ev.idx] at h2
    obtain ⟨k2, rfl⟩ := asI_rep hv2 h2
    refine ⟨_, hrun hj.toNat (run_bounds3 (hlo.idx h1) ⟨k2, rfl⟩ hbd hme' hcap), Rep.cut hz hsz' (by omega) (by omega) (Nat.le_refl _) (by omega) (fun b hb hs => ?_) (fun k t hnl => by simp)⟩
    simp only [Tok.fits]
theorem y_slice_hs {t : TypeId} {kk tt lo len : Nat} {full ag : Bool} {n : Nat} {z : Value} {li hi mx : Option AV} {lo' hi' mx' : Option Value} {r : Nat × Nat} (hz : Rep g (.hs kk tt n lo len full) z)
    (hlo : RepO g li lo') (hhi : RepO g hi hi') (hmx : RepO g mx mx') (ht : eli P t = some (ag, n)) (hb : bounds len li hi = some r) (hx : hsK kk tt n lo len full mx r = some x) (hh3 : mx.isSome = true → hi.isSome = true) :
    Yld P g w (Instr.sliceAt t z lo' hi' mx') x := by
  obtain ⟨et, hu, hty⟩ := eli_parts ht
  obtain ⟨l, h⟩ := r
  obtain ⟨i1, i2, h1, h2, hbd, rfl, rfl⟩ := bounds_parts hb
  cases hz with
  | hs _ _ _ _ _ _ b lim cap he hc hl hf =>
  have hrun : ∀ m : Nat, (Instr.sliceBounds true len cap lo' hi' mx').run P w = .ok (i1.toNat, i2.toNat, m) w →
      (Instr.sliceAt t (.slice (some ⟨b, lo * n, none⟩) len cap) lo' hi' mx').run P w = .ok (.slice (if m = i1.toNat then some ⟨b, lo * n, none⟩ else some (Addr.add ⟨b, lo * n, none⟩ (i1.toNat * n))) (i2.toNat - i1.toNat) (m - i1.toNat)) w := by
    intro m hm
    unfold Instr.sliceAt
    rw [run_bind, run_underlying hu]
    simp only
    unfold Instr.slice
    rw [run_bind, run_underlying hu]
    simp only
    rw [run_bind, hm]
    simp only
    rw [run_bind, run_sizeOf hty]
    rfl
  have hrep : ∀ (m : Nat) (f' : Bool) (tok : Tok), i2.toNat ≤ m → m ≤ cap → (f' = true → m = i2.toNat) → (tok = .no ∨ (tok = .full ∧ m = i2.toNat)) →
      Rep g (bif i1.toNat == i2.toNat then .sl false 0 [] tok else .hs kk tt n (lo + i1.toNat) (i2.toNat - i1.toNat) f') (.slice (if m = i1.toNat then some ⟨b, lo * n, none⟩ else some (Addr.add ⟨b, lo * n, none⟩ (i1.toNat * n))) (i2.toNat - i1.toNat) (m - i1.toNat)) := by
    intro m f' tok hm1 hm2 hff htok
    by_cases e : i1.toNat = i2.toNat
    · rw [show (i1.toNat == i2.toNat) = true by simpa using e, cond_true]
      have e0 : i2.toNat - i1.toNat = ([] : List AV).length := by simp; omega
      rw [e0]
      have hz2 : ∃ ad : Addr, (if m = i1.toNat then some (⟨b, lo * n, none⟩ : Addr) else some (Addr.add ⟨b, lo * n, none⟩ (i1.toNat * n))) = some ad ∧ ad.spot = none := by
        split
        · exact ⟨_, rfl, rfl⟩
        · exact ⟨_, rfl, by rw [add_addr _ rfl]⟩
      obtain ⟨ad, e1, e2⟩ := hz2
      rw [e1]
      refine .sl 0 [] tok ad (m - i1.toNat) (fun _ _ => Go.undef) e2 (fun q hq => by cases hq) (fun i j hi => by simp at hi) (fun i j q c hq => by simp at hq) (by simp) ?_
      rcases htok with rfl | ⟨rfl, hm3⟩
      · trivial
      · simp only [Tok.fits, List.length_nil]; omega
    · rw [show (i1.toNat == i2.toNat) = false by simpa using e, cond_false, if_neg (by omega), add_addr _ rfl]
      have := Rep.hs (g := g) kk tt n (lo + i1.toNat) (i2.toNat - i1.toNat) f' b lim (m - i1.toNat) he (by omega) (Nat.le_trans (Nat.mul_le_mul_right n (by omega)) hl) (fun hft => by have := hff hft; omega)
      rw [Nat.add_mul] at this
      exact this
  unfold hsK at hx
  cases mx with
  | none =>
    obtain rfl := hmx.none_
    simp only at hx
    injection hx with hx; subst hx
    by_cases e0 : i1.toNat = i2.toNat ∧ i2.toNat = 0
    · refine ⟨_, hrun cap (run_bounds (hlo.idx h1) (hhi.idx h2) hbd hc), ?_⟩
      rw [show (i1.toNat == i2.toNat) = true by simpa using e0.1, show (i2.toNat == 0) = true by simpa using e0.2, cond_true, cond_true, e0.1, e0.2]
      have hcell : (if cap = 0 then some (⟨b, lo * n, none⟩ : Addr) else some (Addr.add ⟨b, lo * n, none⟩ (0 * n))) = some ⟨b, lo * n, none⟩ := by
        split
        · rfl
        · rw [add_addr _ rfl]; simp
      rw [hcell]
      exact .hs kk tt n lo 0 _ b lim cap he (Nat.zero_le _) hl (fun hft => by
        rw [Bool.and_eq_true] at hft
        have h1 := hf hft.1
        have h2 : 0 = len := by simpa using hft.2
        omega)
    · have e1 : (bif i1.toNat == i2.toNat then (bif i2.toNat == 0 then AV.hs kk tt n lo 0 (full && 0 == len) else .sl false 0 [] .no) else .hs kk tt n (lo + i1.toNat) (i2.toNat - i1.toNat) (full && i2.toNat == len)) = (bif i1.toNat == i2.toNat then .sl false 0 [] .no else .hs kk tt n (lo + i1.toNat) (i2.toNat - i1.toNat) (full && i2.toNat == len)) := by
        by_cases e2 : i1.toNat = i2.toNat
        · rw [show (i1.toNat == i2.toNat) = true by simpa using e2, show (i2.toNat == 0) = false by simpa using fun q => e0 ⟨e2, q⟩]; rfl
        · rw [show (i1.toNat == i2.toNat) = false by simpa using e2]; rfl
      rw [e1]
      refine ⟨_, hrun cap (run_bounds (hlo.idx h1) (hhi.idx h2) hbd hc), hrep cap _ .no (by omega) (Nat.le_refl _) (fun hft => ?_) (.inl rfl)⟩
      rw [Bool.and_eq_true] at hft
      have := hf hft.1
      have : i2.toNat = len := by simpa using hft.2
      omega
  | some m =>
    obtain ⟨v, rfl, hv⟩ := hmx.some_
    simp only [Option.bind_eq_some_iff] at hx
    obtain ⟨mi, hmi, hx⟩ := hx
    obtain ⟨hme, hx⟩ := cnd_some hx
    injection hx with hx; subst hx
    obtain ⟨k, rfl⟩ := asI_rep hv hmi
    have hme' : mi = i2 := by have : mi = (i2.toNat : Int) := by simpa using hme
                              omega
    obtain ⟨hv', rfl⟩ := Option.isSome_iff_exists.1 (hh3 rfl)
    obtain ⟨v2, rfl, hv2⟩ := hhi.some_
    simp only [Ev.idx] at h2
    obtain ⟨k2, rfl⟩ := asI_rep hv2 h2
    exact ⟨_, hrun i2.toNat (run_bounds3 (hlo.idx h1) ⟨k2, rfl⟩ hbd hme' hc), hrep i2.toNat true .full (Nat.le_refl _) (by omega) (fun _ => rfl) (.inr ⟨rfl, rfl⟩)⟩
theorem y_slice_str {t : TypeId} {a : List UInt8} {z : Value} {lo hi : Option AV} {lo' hi' : Option Value} {r : Nat × Nat} (hz : Rep g (.str a) z) (hlo : RepO g lo lo') (hhi : RepO g hi hi') (ht : isStr P t = true) (hb : bounds a.length lo hi = some r) :
    Yld P g w (Instr.sliceAt t z lo' hi' none) (.str (sub r.1 r.2 a)) := by
  obtain ⟨s, rfl, rfl⟩ := str_rep hz
  obtain ⟨l, h⟩ := r
  obtain ⟨li, hj, h1, h2, hbd, rfl, rfl⟩ := bounds_parts hb
  have hu : P.underlying t = some .string := by
    unfold isStr at ht
    split at ht
    · assumption
    · cases ht
  rw [size_data] at h2 hbd
  refine ⟨.string (s.extract li.toNat hj.toNat), ?_, .str _ _ ?_⟩
  · unfold Instr.sliceAt
    rw [run_bind, run_underlying hu]
    simp only
    unfold Instr.slice
    rw [run_bind, run_underlying hu]
    simp only [Option.isSome_none, Bool.false_eq_true, if_false]
    rw [run_bind, run_bounds (hlo.idx h1) (hhi.idx h2) hbd (Nat.le_refl _)]
    rfl
  · unfold sub
    simp [ByteArray.data_extract, Array.toList_extract, List.extract_eq_take_drop, List.drop_take]
theorem y_nilCheck_ep {z : Value} {e : AV} (hz : Rep g (.ep e) z) : ∃ a, z = .pointer (some a) := by
  cases hz with
  | ep _ a f hs hall hfz hr => exact ⟨a, rfl⟩
theorem y_nilCheck_pt {z : Value} {k t i o : Nat} (hz : Rep g (.pt k t i o) z) : ∃ a, z = .pointer (some a) := by
  cases hz with
  | pt _ _ _ _ b n lim h => exact ⟨_, rfl⟩
theorem Rep.fnOf {f : Fn} {a b : List AV} {va vb : Array Value} (ha : Reps g a va.toList) (hb : Reps g b vb.toList) : Rep g (.fn f a b) (.func f va vb) :=
  .fn f a b va vb (by simpa using ha.1) (by simpa using hb.1) (fun i x y hx hy => ha.2 i x y hx (by simpa using hy)) (fun i x y hx hy => hb.2 i x y hx (by simpa using hy))
theorem y_index_str {t : TypeId} {a : List UInt8} {z : Value} {k : IntKind} {j : Int} {c : UInt8} (hz : Rep g (.str a) z) (ht : isStr P t = true) (hj : 0 ≤ j ∧ j < a.length) (hc : a[j.toNat]? = some c) : Yld P g w (Instr.index t z (.int k j)) (.int .u8 c.toNat) := by
  obtain ⟨s, rfl, rfl⟩ := str_rep hz
  have hu : P.underlying t = some .string := by
    unfold isStr at ht
    split at ht
    · assumption
    · cases ht
  refine ⟨.int .u8 c.toNat, ?_, .int _ _⟩
  unfold Instr.index
  rw [run_bind, run_asIntOf]
  simp only
  rw [run_bind, run_underlying hu]
  simp only
  rw [if_pos hj.1]
  have : s[j.toNat]? = some c := by
    rw [Array.getElem?_toList] at hc
    obtain ⟨hlt, he⟩ := Array.getElem?_eq_some_iff.1 hc
    have hlt' : j.toNat < s.size := hlt
    rw [getElem?_pos s j.toNat hlt']
    congr 1
  rw [this]
  rfl
theorem y_index_arr {t : TypeId} {cs : List AV} {z : Value} {k : IntKind} {j : Int} {len n : Nat} {ag : Bool} (hz : Rep g (.agg cs) z) (ht : ari P t = some (len, ag, n)) (hj : 0 ≤ j ∧ j < len) (hx : prt ag (j.toNat * n) n cs = some x) : Yld P g w (Instr.index t z (.int k j)) x := by
  obtain ⟨vs, rfl, hv⟩ := hz.reps
  obtain ⟨et, hu, hty⟩ := ari_parts ht
  obtain ⟨v, h1, h2⟩ := prt_sound (w := w) hty hv hx
  refine ⟨v, ?_, h2⟩
  unfold Instr.index
  rw [run_bind, run_asIntOf]
  simp only
  rw [run_bind, run_underlying hu]
  simp only
  rw [if_pos hj, run_bind, run_sizeOf hty]
  exact h1
end
end Go.Ev
