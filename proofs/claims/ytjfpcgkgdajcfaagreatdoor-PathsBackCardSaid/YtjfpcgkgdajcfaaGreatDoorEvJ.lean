/-
  A region that draws its order is sound: whatever the order; no condition.
-/
import Derived.Test.YtjfpcgkgdajcfaaGreatDoorEvI
namespace Go.Ev
open Go Go.RowKit

theorem edges_lt {ops : Array Oper} (h : edgesOk ops = true) {i : Nat} {o : Oper} (hi : ops[i]? = some o) : ∀ e ∈ o.after, Region.binds .any e = true → e.on < i := by
  intro e he hb
  unfold edgesOk at h
  rw [List.all_eq_true] at h
  have h1 := h (o, i) (by rw [List.mem_zipIdx_iff_getElem?]; simpa using hi)
  simp only [Array.all_eq_true_iff_forall_mem] at h1
  have h2 := h1 e he
  rw [hb] at h2
  rw [Bool.not_true, Bool.false_or, Nat.blt_eq] at h2
  exact h2
theorem before_lt {ops : Array Oper} (h : edgesOk ops = true) : ∀ (n i j : Nat), i < n → ((Region.before ops).getD i 0).testBit j = true → j < i := by
  intro n
  induction n with
  | zero => intro i j hi; omega
  | succ n ih =>
    intro i j hi hb
    obtain ⟨o, ho, e, he, h1, h2⟩ := before_bit hb
    have := edges_lt h ho e he h1
    rcases h2 with rfl | ⟨_, h3⟩
    · exact this
    · have := ih e.on j (by omega) h3; omega
theorem guards_spec {ops : Array Oper} (h : guardsOk ops (Region.before ops) = true) {i gj : Nat} {o : Oper} {want : Bool} (hi : ops[i]? = some o) (hg : o.guard = some (gj, want)) :
    ((Region.before ops).getD i 0).testBit gj = true ∧ ∀ (k : Nat) (o' : Oper), ops[k]? = some o' → k ≠ gj → o'.dst ≠ (ops[gj]?).bind (·.dst) := by
  unfold guardsOk at h
  rw [List.all_eq_true] at h
  have h1 := h (o, i) (by rw [List.mem_zipIdx_iff_getElem?]; simpa using hi)
  simp only [hg, Bool.and_eq_true, List.all_eq_true] at h1
  refine ⟨h1.1, fun k o' hk hne => ?_⟩
  have h2 := h1.2 (o', k) (by rw [List.mem_zipIdx_iff_getElem?]; simpa using hk)
  simp only [Bool.or_eq_true, beq_iff_eq, Bool.not_eq_true', beq_eq_false_iff_ne] at h2
  exact h2.resolve_left hne
theorem guardT_eq {ops : Array Oper} {o : Oper} {t : Tmp} (h : guardT (ops.toList.map (·.dst)) o = some t) : ∃ gj want, o.guard = some (gj, want) ∧ (ops[gj]?).bind (·.dst) = some t := by
  unfold guardT at h
  rw [Option.bind_eq_some_iff] at h
  obtain ⟨⟨gj, want⟩, h1, h2⟩ := h
  refine ⟨gj, want, h1, ?_⟩
  simp only [List.getElem?_map, Array.getElem?_toList] at h2
  cases hg : ops[gj]? with
  | none => rw [hg] at h2; simp at h2
  | some o' => rw [hg] at h2; simpa using h2
theorem named_op {o : Oper} {t : Tmp} (h : .tmp t ∈ o.op.operands) : t ∈ named o := by
  unfold named
  rw [List.mem_append]
  exact .inr (List.mem_filterMap.2 ⟨.tmp t, by simpa using h, rfl⟩)
theorem named_dst {o : Oper} {t : Tmp} (h : o.dst = some t) : t ∈ named o := by
  unfold named
  rw [List.mem_append, h]
  exact .inl (by simp)
/-- Of two that no order binds, neither looks at what the other writes. -/
theorem away_of {ops : Array Oper} (hst : statOk ops = true) {i j : Nat} {x y : Oper} (hi : ops[i]? = some x) (hj : ops[j]? = some y) (hlt : i < j) (hb : ((Region.before ops).getD j 0).testBit i = false) :
    (∀ t, x.dst = some t → Away (ops.toList.map (·.dst)) t y) ∧ ∀ t, y.dst = some t → Away (ops.toList.map (·.dst)) t x := by
  unfold statOk at hst
  rw [Bool.and_eq_true, Bool.and_eq_true] at hst
  obtain ⟨he, hg, ht⟩ := hst
  have hmax : max i j = j := Nat.max_eq_right (Nat.le_of_lt hlt)
  have hmin : min i j = i := Nat.min_eq_left (Nat.le_of_lt hlt)
  have hmax' : max j i = j := Nat.max_eq_left (Nat.le_of_lt hlt)
  have hmin' : min j i = i := Nat.min_eq_right (Nat.le_of_lt hlt)
  have n1 : ∀ t, x.dst = some t → t ∉ named y := fun t hd hn => by
    have := temps_spec ht hi hj hd hn (by omega)
    rw [hmax, hmin, hb] at this; cases this
  have n2 : ∀ t, y.dst = some t → t ∉ named x := fun t hd hn => by
    have := temps_spec ht hj hi hd hn (by omega)
    rw [hmax', hmin', hb] at this; cases this
  refine ⟨fun t hd => ⟨fun z hz q => n1 t hd (named_op (q ▸ hz)), fun q => ?_, fun q => n1 t hd (named_dst q)⟩, fun t hd => ⟨fun z hz q => n2 t hd (named_op (q ▸ hz)), fun q => ?_, fun q => n2 t hd (named_dst q)⟩⟩
  · obtain ⟨gj, want, h1, h2⟩ := guardT_eq q
    obtain ⟨h3, h4⟩ := guards_spec hg hj h1
    by_cases hgi : i = gj
    · subst hgi; rw [hb] at h3; cases h3
    · exact h4 i x hi hgi (by rw [hd, h2])
  · obtain ⟨gj, want, h1, h2⟩ := guardT_eq q
    obtain ⟨h3, h4⟩ := guards_spec hg hi h1
    have := before_lt he (i + 1) i gj (by omega) h3
    exact h4 j y hj (by omega) (by rw [hd, h2])
/-- What is left of a region: what is not listed, in the text's order; what is listed is closed under the order. -/
structure Left (ops : Array Oper) (listed : Array Bool) (l : List (Nat × Oper)) : Prop where
  size : listed.size = ops.size
  mem : ∀ i o, (i, o) ∈ l ↔ ops[i]? = some o ∧ listed.getD i true = false
  srt : l.Pairwise fun a b => a.1 < b.1
  clo : ∀ q i, listed.getD q false = true → ((Region.before ops).getD q 0).testBit i = true → listed.getD i false = true
theorem numbered_mem {α : Type} : ∀ (l : List α) (n i : Nat) (x : α), (i, x) ∈ numbered n l ↔ n ≤ i ∧ l[i - n]? = some x := by
  intro l
  induction l with
  | nil => intro n i x; simp [numbered]
  | cons y l ih =>
    intro n i x
    rw [numbered, List.mem_cons, ih]
    constructor
    · rintro (h | ⟨h1, h2⟩)
      · simp only [Prod.mk.injEq] at h
        obtain ⟨rfl, rfl⟩ := h
        exact ⟨Nat.le_refl _, by simp⟩
      · refine ⟨by omega, ?_⟩
        rw [show i - n = (i - (n + 1)) + 1 by omega, List.getElem?_cons_succ]; exact h2
    · rintro ⟨h1, h2⟩
      by_cases hi : i = n
      · subst hi
        rw [Nat.sub_self, List.getElem?_cons_zero] at h2
        injection h2 with h2
        exact .inl (by rw [h2])
      · refine .inr ⟨by omega, ?_⟩
        rw [show i - n = (i - (n + 1)) + 1 by omega, List.getElem?_cons_succ] at h2; exact h2
theorem numbered_srt {α : Type} : ∀ (l : List α) (n : Nat), (numbered n l).Pairwise fun a b => a.1 < b.1 := by
  intro l
  induction l with
  | nil => intro n; exact .nil
  | cons y l ih =>
    intro n
    rw [numbered, List.pairwise_cons]
    refine ⟨fun a ha => ?_, ih _⟩
    obtain ⟨i, x⟩ := a
    exact ((numbered_mem l _ _ _).1 ha).1
theorem numbered_length {α : Type} : ∀ (l : List α) (n : Nat), (numbered n l).length = l.length := by
  intro l
  induction l with
  | nil => intro n; rfl
  | cons y l ih => intro n; rw [numbered, List.length_cons, List.length_cons, ih]
theorem Left.start (ops : Array Oper) : Left ops (Array.replicate ops.size false) (numbered 0 ops.toList) where
  size := by simp
  mem := fun i o => by
    rw [numbered_mem, Nat.sub_zero, Array.getElem?_toList]
    constructor
    · rintro ⟨_, h⟩
      have hi := (Array.getElem?_eq_some_iff.1 h).1
      exact ⟨h, by simp [hi]⟩
    · rintro ⟨h, _⟩; exact ⟨Nat.zero_le _, h⟩
  srt := numbered_srt _ _
  clo := fun q i h => by
    simp [Array.getElem?_replicate] at h
    split at h <;> simp at h
theorem getD_listed {listed : Array Bool} {i : Nat} (hi : i < listed.size) : listed.getD i true = listed.getD i false := by
  simp [Array.getElem?_eq_getElem hi]
section
variable {W0 : World} {P : Program} {B : Nat} {C : Cfg} {cF : FuncId → List AV → Option Out} {cD : FuncId → List AV → St → Option (Out × St)} {mu : Bool}
theorem draw_main (hF : SoundF P W0 cF) (hD : SoundD P W0 cD) {ops : Array Oper} (hst : statOk ops = true) {T : List (Nat × Acc)} (hT : ∀ j aj i ai, (j, aj) ∈ T → (i, ai) ∈ T → i < j → Acc.conf ai aj = true → ((Region.before ops).getD j 0).testBit i = true) {s' : St} :
    ∀ (fuel : Nat) (l : List (Nat × Oper)) (t : List (Nat × Acc)) (listed : Array Bool) (g : G) (s : St) (a : Act) (w : World), l.length = fuel → Left ops listed l → Steps (P := P) (C := C) (cF := cF) (cD := cD) (mu := mu) (ops.toList.map (·.dst)) l t s s' → (∀ e ∈ t, e.2 = .no ∨ e ∈ T) → Rel W0 g s a w B →
    ∀ Q : Exit → Act → World → Prop, (∀ a' w', Post W0 g w B .normal s' .normal a' w' → Q .normal a' w') → wpAny P .any ops Q fuel listed a w := by
  have he : edgesOk ops = true := by unfold statOk at hst; rw [Bool.and_eq_true] at hst; exact hst.1
  intro fuel
  induction fuel with
  | zero =>
    intro l t listed g s a w hl hL hs _ hr Q hQ
    have : l = [] := List.eq_nil_of_length_eq_zero hl
    subst this
    cases hs
    refine ⟨?_, hQ _ _ ⟨g, .refl g w B, hr, trivial⟩⟩
    rw [List.eq_nil_iff_forall_not_mem]
    intro j hj
    obtain ⟨h1, o, h2, _⟩ := mem_ready.1 hj
    have := (hL.mem j o).2 ⟨h2, h1⟩
    cases this
  | succ fuel ih =>
    intro l t listed g s a w hl hL hs ht hr Q hQ
    refine ⟨fun hnil => ?_, fun j hj => ?_⟩
    · cases l with
      | nil => simp at hl
      | cons c l =>
        obtain ⟨i, o⟩ := c
        obtain ⟨h1, h2⟩ := (hL.mem i o).1 List.mem_cons_self
        have hsz := (Array.getElem?_eq_some_iff.1 h1).1
        have : i ∈ Region.ready .any ops listed := by
          refine mem_ready.2 ⟨h2, o, h1, fun e hem hb => ?_⟩
          have hlt := edges_lt he h1 e hem hb
          have hsz' : e.on < ops.size := by omega
          cases hc : listed.getD e.on false with
          | true => rfl
          | false =>
            have := (hL.mem e.on ops[e.on]).2 ⟨Array.getElem?_eq_getElem hsz', by rw [getD_listed (by rw [hL.size]; exact hsz')]; exact hc⟩
            rcases List.mem_cons.1 this with q | q
            · simp only [Prod.mk.injEq] at q; omega
            · have := (List.pairwise_cons.1 hL.srt).1 _ q; simp only at this; omega
        rw [hnil] at this; cases this
    · obtain ⟨h1, y, h2, h3⟩ := mem_ready.1 hj
      have hjl := (hL.mem j y).2 ⟨h2, h1⟩
      obtain ⟨p, q, rfl⟩ := List.append_of_mem hjl
      have hjsz := (Array.getElem?_eq_some_iff.1 h2).1
      have hbits : ∀ i, ((Region.before ops).getD j 0).testBit i = true → listed.getD i false = true := fun i hb => by
        obtain ⟨o, ho, e, hem, hbd, h4⟩ := before_bit hb
        rw [h2] at ho; injection ho with ho; subst ho
        have hl1 := h3 e hem hbd
        rcases h4 with rfl | ⟨_, h5⟩
        · exact hl1
        · exact hL.clo _ _ hl1 h5
      have hsp := List.pairwise_append.1 hL.srt
      have hun : ∀ i x, (i, x) ∈ p → i < j ∧ ops[i]? = some x ∧ ((Region.before ops).getD j 0).testBit i = false := fun i x hi => by
        have hlt := hsp.2.2 (i, x) hi (j, y) List.mem_cons_self
        obtain ⟨g1, g2⟩ := (hL.mem i x).1 (List.mem_append_left _ hi)
        refine ⟨hlt, g1, ?_⟩
        cases hc : ((Region.before ops).getD j 0).testBit i with
        | false => rfl
        | true =>
          have := hbits i hc
          rw [getD_listed (by rw [hL.size]; exact (Array.getElem?_eq_some_iff.1 g1).1), this] at g2; cases g2
      obtain ⟨acc, s1, t', k1, k2, k3, k4⟩ := hs.ahead (fun i x hi => by
        obtain ⟨u1, u2, u3⟩ := hun i x hi
        obtain ⟨v1, v2⟩ := away_of hst u2 h2 u1 u3
        refine ⟨v1, v2, fun ai aj hai haj => ?_⟩
        rcases ht _ hai with q1 | q1
        · simp only at q1; subst q1; rfl
        · rcases ht _ haj with q2 | q2
          · simp only at q2; subst q2; cases ai <;> rfl
          · cases hc : Acc.conf ai aj with
            | false => rfl
            | true => rw [hT _ _ _ _ q2 q1 u1 hc] at u3; cases u3)
      have hL' : Left ops (listed.setIfInBounds j true) (p ++ q) := {
        size := by rw [Array.size_setIfInBounds]; exact hL.size
        mem := fun i o => by
          have hnd : ∀ o', (j, o') ∉ p ++ q := fun o' hm => by
            rcases List.mem_append.1 hm with hm | hm
            · have := hsp.2.2 _ hm (j, y) List.mem_cons_self; simp only at this; omega
            · have := (List.pairwise_cons.1 hsp.2.1).1 _ hm; simp only at this; omega
          by_cases hij : i = j
          · subst hij
            constructor
            · intro hm; exact absurd hm (hnd o)
            · rintro ⟨_, hm⟩
              simp [hL.size, hjsz] at hm
          · rw [getD_set_ne true (Ne.symm hij), ← hL.mem, List.mem_append, List.mem_append, List.mem_cons]
            constructor
            · rintro (hm | hm)
              · exact .inl hm
              · exact .inr (.inr hm)
            · rintro (hm | hm | hm)
              · exact .inl hm
              · simp only [Prod.mk.injEq] at hm; exact absurd hm.1 hij
              · exact .inr hm
        srt := hL.srt.sublist (List.Sublist.append_left (List.sublist_cons_self _ _) _)
        clo := fun q i hq hb => by
          by_cases hqj : q = j
          · subst hqj; exact getD_set_true (hbits i hb)
          · rw [getD_set_ne false (Ne.symm hqj)] at hq
            exact getD_set_true (hL.clo q i hq hb) }
      have hlen : (p ++ q).length = fuel := by
        simp only [List.length_append, List.length_cons] at hl ⊢; omega
      have ht' : ∀ e ∈ t', e.2 = .no ∨ e ∈ T := fun e hem => ht e (k4 e hem)
      unfold wpOp
      simp only [h2]
      unfold step at k1
      rw [Option.bind_eq_some_iff] at k1
      obtain ⟨wt, hw, k1⟩ := k1
      rw [wanted_sound hr.tms hw]
      cases wt with
      | true =>
        simp only [if_true]
        left
        unfold stepW at k1
        simp only at k1
        split at k1
        · rename_i a' s1' hop
          injection k1 with k1
          simp only [Prod.mk.injEq] at k1
          obtain ⟨rfl, rfl⟩ := k1
          refine evOp_wp hF hD hr hop (fun acc2 s2 hrr g' a2 w' hn hr' => ?_) (fun x s2 hrr => by cases hrr)
          injection hrr with _ hrr
          subst hrr
          exact ih _ _ _ g' _ a2 w' hlen hL' k2 ht' hr' Q (fun a3 w3 hp => hQ a3 w3 (hp.trans hn))
        · cases k1
      | false =>
        simp only [Bool.false_eq_true, if_false]
        unfold stepW at k1
        injection k1 with k1
        simp only [Prod.mk.injEq] at k1
        obtain ⟨rfl, rfl⟩ := k1
        refine ih _ _ _ g _ _ w hlen hL' k2 ht' ⟨hr.mem.put _ _, hr.tms.put (Rep.undef g) y.dst, ?_, hr.old⟩ Q hQ
        rw [put_defers, put_df]; exact hr.df
theorem evDraw_wp (hF : SoundF P W0 cF) (hD : SoundD P W0 cD) (hmix : P.follows .mixedOrders = true) {ops : Array Oper} {id : Nat} {g : G} {s : St} {a : Act} {w : World} {e : Ex} {s' : St} (hr : Rel W0 g s a w B)
    (h : (evDraw P C cF cD mu (ops.toList.map (·.dst)) (numbered 0 ops.toList) [] s).bind (endDraw ops) = some (e, s')) (Q : Exit → Act → World → Prop) (hQ : ∀ E a' w', Post W0 g w B e s' E a' w' → Q E a' w') : (Code.region id ops true).wp P Q a w := by
  rw [Option.bind_eq_some_iff] at h
  obtain ⟨⟨r, tc, s1⟩, h1, h2⟩ := h
  cases r with
  | some p => cases h2
  | none =>
    unfold endDraw at h2
    simp only at h2
    obtain ⟨hok, h2⟩ := bif_some h2
    injection h2 with h2
    simp only [Prod.mk.injEq] at h2
    obtain ⟨rfl, rfl⟩ := h2
    unfold orderOk at hok
    rw [Bool.and_eq_true] at hok
    obtain ⟨hst, hord⟩ := hok
    obtain ⟨t, hs, _, ht⟩ := evDraw_steps _ _ _ _ _ h1
    refine wp_region_any hmix ?_
    have hgb : w.grownBy w.drew none := ⟨rfl, rfl, rfl, Nat.le_refl _, fun _ _ _ => rfl⟩
    have hn : Nxt g w B g w.drew := ⟨.refl g, (Below.refl B w).grown hgb hr.mem.base (fun k hk => by cases hk), fun _ _ _ => rfl⟩
    refine draw_main (T := tc) hF hD hst (fun j aj i ai hj hi hlt hc => ?_) ops.size _ t _ g s a w.drew (by rw [numbered_length, Array.length_toList]) (Left.start ops) hs ht ⟨hr.mem.drew, hr.tms, hr.df, hr.old.next hn.below⟩ Q (fun a' w' hp => hQ _ _ _ (hp.trans hn))
    rw [List.all_eq_true] at hord
    have o1 := hord _ hj
    simp only at o1
    rw [List.all_eq_true] at o1
    have o2 := o1 _ hi
    simp only [hc, blt_t hlt, Bool.not_true, Bool.false_or] at o2
    exact o2
end
end Go.Ev
