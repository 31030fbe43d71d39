/-
  The call's own memory, and what stays: its laws; no condition.
-/
import Derived.Test.YtjfpcgkgdajcfaaGreatDoorEvRep
import Derived.Laws.AppendOwn
import Derived.Below
namespace Go.Ev
open Go Go.RowKit

theorem tri (n : Nat) : (n + 1) * (n + 2) / 2 = n * (n + 1) / 2 + (n + 1) := by
  have : (n + 1) * (n + 2) = n * (n + 1) + 2 * (n + 1) := by
    rw [Nat.mul_comm n (n + 1), Nat.mul_comm 2 (n + 1), ← Nat.mul_add]
  rw [this, Nat.add_mul_div_left _ _ (by decide)]
theorem tri_le {m n : Nat} (h : m ≤ n) : m * (m + 1) / 2 ≤ n * (n + 1) / 2 := Nat.div_le_div_right (Nat.mul_le_mul h (by omega))
theorem pairN_inj {k c k' c' : Nat} (h : pairN k c = pairN k' c') : k = k' ∧ c = c' := by
  unfold pairN at h
  have key : ∀ a k b k' : Nat, k ≤ a → a < b → a * (a + 1) / 2 + k = b * (b + 1) / 2 + k' → False := by
    intro a k b k' h1 h2 h3
    have t1 := tri a
    have t2 : (a + 1) * (a + 2) / 2 ≤ b * (b + 1) / 2 := tri_le (by omega)
    omega
  rcases Nat.lt_trichotomy (k + c) (k' + c') with q | q | q
  · exact (key _ k _ k' (by omega) q h).elim
  · rw [q] at h; omega
  · exact (key _ k' _ k (by omega) q h.symm).elim
/-- A number that a place has used. -/
def Used (nx : Nat → Nat) (t : Nat) : Prop := ∃ k c, t = pairN k c ∧ c < nx k
theorem Used.bump {nx : Nat → Nat} {t : Nat} (k : Nat) (h : Used nx t) : Used (bump k nx) t := by
  obtain ⟨j, c, h1, h2⟩ := h
  refine ⟨j, c, h1, ?_⟩
  unfold Ev.bump
  cases hj : j == k with
  | true => exact Nat.lt_succ_of_lt h2
  | false => exact h2
theorem used_new (k : Nat) (nx : Nat → Nat) : Used (bump k nx) (pairN k (nx k)) := by
  refine ⟨k, nx k, rfl, ?_⟩
  unfold Ev.bump
  rw [beq_self_eq_true]; exact Nat.lt_succ_self _
theorem not_used (k : Nat) (nx : Nat → Nat) : ¬Used nx (pairN k (nx k)) := by
  intro ⟨j, c, h1, h2⟩
  obtain ⟨rfl, rfl⟩ := pairN_inj h1
  omega
/-- A variable or row of our own lies in a block of its own. -/
structure Own (g : G) (w : World) (B : Nat) (x : Blk) (b lim : Nat) : Prop where
  eta : g.eta x.g = some (b, x.n, lim)
  base : B ≤ b
  size : b < w.heap.size
  pos : 0 < x.n
  fit : x.els.length * x.n ≤ lim
  rows : ∀ e ∈ x.els, e.row x.n = true
  have_ : ∀ o, o < lim → (w.cell? ⟨b, o, none⟩).isSome = true
  free : ∀ o, o < lim → w.frozen? ⟨b, o, none⟩ = false
  cell : ∀ (i j : Nat) (e c : AV), x.els[i]? = some e → e.cells[j]? = some c → ∃ v, w.cell? ⟨b, i * x.n + j, none⟩ = some v ∧ Rep g c v
  shp : w.shape? b = some (x.ty, lim)
  whole : x.va = true → lim = x.n
  live : x.fz = false → ∀ o, g.fz b o = none
  held : x.fz = true → ∀ o, o < x.els.length * x.n → g.fz b o = w.cell? ⟨b, o, none⟩
/-- A right to append that is alive: behind the end nobody looks. -/
structure Live (g : G) (w : World) (B : Nat) (ty : TypeId) (t len : Nat) (b e lim : Nat) : Prop where
  shp : w.shape? b = some (ty, lim)
  room : g.room t len = some (b, e, lim)
  base : B ≤ b
  size : b < w.heap.size
  quiet : ∀ o, e ≤ o → g.fz b o = none
  have_ : ∀ o, e ≤ o → o < lim → (w.cell? ⟨b, o, none⟩).isSome = true
  free : ∀ o, e ≤ o → o < lim → w.frozen? ⟨b, o, none⟩ = false
  last : ∀ l, len < l → g.room t l = none
structure Mem (g : G) (s : St) (w : World) (B : Nat) : Prop where
  held : ∀ b o v, g.fz b o = some v → w.cell? ⟨b, o, none⟩ = some v
  base : B ≤ w.heap.size
  nod : (s.hp.map (·.g)).Nodup
  blks : ∀ x ∈ s.hp, ∃ b lim, Own g w B x b lim
  inj : ∀ x ∈ s.hp, ∀ y ∈ s.hp, ∀ b n l n' l', g.eta x.g = some (b, n, l) → g.eta y.g = some (b, n', l') → x.g = y.g
  old : ∀ x ∈ s.hp, Used s.nx x.g
  etaN : ∀ t, ¬Used s.nx t → g.eta t = none
  roomN : ∀ t l, ¬Used s.nx t → g.room t l = none
  toks : ∀ e ∈ s.lv, ∃ b x y, Live g w B e.2.2.2 e.2.1 e.2.2.1 b x y
  oldT : ∀ e ∈ s.lv, Used s.nx e.2.1
  srt : s.lv.Pairwise fun a b => a.1 < b.1
  tnod : ∀ e ∈ s.lv, ∀ e' ∈ s.lv, e.2.1 = e'.2.1 → e = e'
  tinj : ∀ e ∈ s.lv, ∀ e' ∈ s.lv, ∀ b x y x' y', g.room e.2.1 e.2.2.1 = some (b, x, y) → g.room e'.2.1 e'.2.2.1 = some (b, x', y') → e = e'
  apart : ∀ e ∈ s.lv, ∀ x ∈ s.hp, ∀ b p q n l, g.room e.2.1 e.2.2.1 = some (b, p, q) → g.eta x.g ≠ some (b, n, l)
theorem cell_of_block {w w' : World} {b o : Nat} (h : w'.heap[b]? = w.heap[b]?) : w'.cell? ⟨b, o, none⟩ = w.cell? ⟨b, o, none⟩ := by
  unfold World.cell?; simp only [h]
theorem shape_of_block {w w' : World} {b : Nat} (h : w'.heap[b]? = w.heap[b]?) : w'.shape? b = w.shape? b := by
  unfold World.shape?; simp only [h]
theorem frozen_of_block {w w' : World} {b o : Nat} (h : w'.heap[b]? = w.heap[b]?) : w'.frozen? ⟨b, o, none⟩ = w.frozen? ⟨b, o, none⟩ := by
  unfold World.frozen?; simp only [h]
theorem cell_lt {w : World} {b o : Nat} {v : Value} (h : w.cell? ⟨b, o, none⟩ = some v) : b < w.heap.size := by
  unfold World.cell? at h
  cases hb : w.heap[b]? with
  | none => rw [hb] at h; cases h
  | some x => exact (Array.getElem?_eq_some_iff.1 hb).1
theorem Own.keep {g g' : G} {w w' : World} {B : Nat} {x : Blk} {b lim : Nat} (h : Own g w B x b lim) (hg : g.le g') (hf : ∀ o, g'.fz b o = g.fz b o) (hs : w.heap.size ≤ w'.heap.size) (hb : w'.heap[b]? = w.heap[b]?) : Own g' w' B x b lim where
  eta := hg.eta _ _ h.eta
  base := h.base
  size := Nat.lt_of_lt_of_le h.size hs
  pos := h.pos
  fit := h.fit
  rows := h.rows
  have_ := fun o ho => by rw [cell_of_block hb]; exact h.have_ o ho
  free := fun o ho => by rw [frozen_of_block hb]; exact h.free o ho
  cell := fun i j e c he hc => by rw [cell_of_block hb]; obtain ⟨v, h1, h2⟩ := h.cell i j e c he hc; exact ⟨v, h1, h2.mono hg⟩
  shp := by rw [shape_of_block hb]; exact h.shp
  whole := h.whole
  live := fun hz o => by rw [hf]; exact h.live hz o
  held := fun hz o ho => by rw [hf, cell_of_block hb]; exact h.held hz o ho
theorem Live.keep {g g' : G} {w w' : World} {B t len b e lim : Nat} {ty : TypeId} (h : Live g w B ty t len b e lim) (hg : g.le g') (hf : ∀ o, g'.fz b o = g.fz b o) (hr : ∀ l, len < l → g'.room t l = none) (hs : w.heap.size ≤ w'.heap.size) (hb : w'.heap[b]? = w.heap[b]?) : Live g' w' B ty t len b e lim where
  shp := by rw [shape_of_block hb]; exact h.shp
  room := hg.room _ _ _ h.room
  base := h.base
  size := Nat.lt_of_lt_of_le h.size hs
  quiet := fun o ho => by rw [hf]; exact h.quiet o ho
  have_ := fun o h1 h2 => by rw [cell_of_block hb]; exact h.have_ o h1 h2
  free := fun o h1 h2 => by rw [frozen_of_block hb]; exact h.free o h1 h2
  last := hr
/-- A world with new blocks, a ghost with new frozen cells in them: all stays. -/
theorem Mem.grow {g g' : G} {s : St} {w w' : World} {B : Nat} (h : Mem g s w B) (hg : g.le g') (heta : g'.eta = g.eta) (hroom : g'.room = g.room)
    (hf : ∀ b o, b < w.heap.size → g'.fz b o = g.fz b o) (hw : w.grownBy w' none) (hn : ∀ b o v, w.heap.size ≤ b → g'.fz b o = some v → w'.cell? ⟨b, o, none⟩ = some v) : Mem g' s w' B where
  held := fun b o v hv => by
    by_cases hb : b < w.heap.size
    · rw [hf b o hb] at hv
      rw [cell_of_block (hw.block b hb (by simp))]
      exact h.held b o v hv
    · exact hn b o v (by omega) hv
  base := Nat.le_trans h.base hw.size
  nod := h.nod
  blks := fun x hx => by
    obtain ⟨b, lim, ho⟩ := h.blks x hx
    exact ⟨b, lim, ho.keep hg (fun o => hf b o ho.size) hw.size (hw.block b ho.size (by simp))⟩
  inj := by rw [heta]; exact h.inj
  old := h.old
  etaN := by rw [heta]; exact h.etaN
  roomN := by rw [hroom]; exact h.roomN
  toks := fun e he => by
    obtain ⟨b, x, y, hl⟩ := h.toks e he
    exact ⟨b, x, y, hl.keep hg (fun o => hf b o hl.size) (by rw [hroom]; exact hl.last) hw.size (hw.block b hl.size (by simp))⟩
  oldT := h.oldT
  srt := h.srt
  tnod := h.tnod
  tinj := by rw [hroom]; exact h.tinj
  apart := by rw [hroom, heta]; exact h.apart
/-- A new row whose first m cells never change. -/
def G.row (g : G) (b : Nat) (vs : Array Value) (m : Nat) : G := { g with fz := fun b' o => if b' = b then (if o < m then vs[o]? else none) else g.fz b' o }
theorem cell_new (w : World) (vs : Array Value) (t : TypeId) (fr : Nat × Nat) (o : Nat) : (w.alloc (.cells vs t fr)).cell? ⟨w.heap.size, o, none⟩ = vs[o]? := by
  unfold World.cell? World.alloc
  simp
theorem shape_new (w : World) (vs : Array Value) (t : TypeId) : (w.alloc (.cells vs t)).shape? w.heap.size = some (t, vs.size) := by
  unfold World.shape? World.alloc
  simp
theorem frozen_new (w : World) (vs : Array Value) (t : TypeId) (o : Nat) : (w.alloc (.cells vs t)).frozen? ⟨w.heap.size, o, none⟩ = false := by
  unfold World.frozen? World.alloc
  simp
theorem G.row_le {g : G} {s : St} {w : World} {B : Nat} (h : Mem g s w B) (vs : Array Value) (m : Nat) : g.le (g.row w.heap.size vs m) where
  fz := fun b o v hv => by
    unfold G.row
    simp only
    rw [if_neg (fun e => by subst e; exact absurd (cell_lt (h.held _ _ _ hv)) (by omega))]
    exact hv
  eta := fun _ _ h => h
  room := fun _ _ _ h => h
theorem Mem.row' {g : G} {s : St} {w w' : World} {B : Nat} (h : Mem g s w B) (vs : Array Value) (m : Nat) (hg : w.grownBy w' none) (hc : ∀ o, w'.cell? ⟨w.heap.size, o, none⟩ = vs[o]?) : Mem (g.row w.heap.size vs m) s w' B := by
  refine h.grow (G.row_le h vs m) rfl rfl (fun b o hb => ?_) hg (fun b o v hb hv => ?_)
  · unfold G.row; simp only; rw [if_neg (by omega)]
  · unfold G.row at hv
    simp only at hv
    split at hv
    · rename_i e
      split at hv
      · subst e; rw [hc]; exact hv
      · cases hv
    · exact absurd (cell_lt (h.held _ _ _ hv)) (by omega)
theorem Mem.row {g : G} {s : St} {w : World} {B : Nat} (h : Mem g s w B) (vs : Array Value) (m : Nat) (t : TypeId) : Mem (g.row w.heap.size vs m) s (w.alloc (.cells vs t)) B :=
  h.row' vs m (World.grownBy_alloc w _ none) (fun o => cell_new w vs t _ o)
/-- No block of our own is this one. -/
structure Fresh (g : G) (s : St) (b : Nat) : Prop where
  hp : ∀ x ∈ s.hp, ∀ n l, g.eta x.g ≠ some (b, n, l)
  lv : ∀ e ∈ s.lv, ∀ x y, g.room e.2.1 e.2.2.1 ≠ some (b, x, y)
theorem Mem.fresh {g : G} {s : St} {w : World} {B b : Nat} (h : Mem g s w B) (hb : w.heap.size ≤ b) : Fresh g s b where
  hp := fun x hx n l he => by
    obtain ⟨b', lim, ho⟩ := h.blks x hx
    rw [ho.eta] at he; injection he with he; simp only [Prod.mk.injEq] at he
    have := ho.size; omega
  lv := fun e he x y hr => by
    obtain ⟨b', p, q, hl⟩ := h.toks e he
    rw [hl.room] at hr; injection hr with hr; simp only [Prod.mk.injEq] at hr
    have := hl.size; omega
/-- A new right to append. -/
def G.tk (g : G) (t len b e lim : Nat) : G := { g with room := fun t' l => if t' = t ∧ l = len then some (b, e, lim) else g.room t' l }
theorem G.tk_le {g : G} {t len b e lim : Nat} (h : g.room t len = none) : g.le (g.tk t len b e lim) where
  fz := fun _ _ _ h => h
  eta := fun _ _ h => h
  room := fun t' l r hr => by
    unfold G.tk
    simp only
    rw [if_neg (fun e => by rw [e.1, e.2] at hr; rw [h] at hr; cases hr)]
    exact hr
theorem mem_setTk' {k g len : Nat} {ty : TypeId} {e : Nat × Nat × Nat × TypeId} : ∀ {l : List (Nat × Nat × Nat × TypeId)}, e ∈ setTk k g len ty l → e = (k, g, len, ty) ∨ e ∈ l := by
  intro l
  induction l with
  | nil => intro h; simp [setTk] at h; exact .inl h
  | cons c l ih =>
    intro h
    unfold setTk at h
    cases hb : Nat.blt k c.1 with
    | true =>
      rw [hb, cond_true, List.mem_cons] at h
      exact h
    | false =>
      rw [hb, cond_false] at h
      cases hk : c.1 == k with
      | true =>
        rw [hk, cond_true, List.mem_cons] at h
        exact h.imp id (List.mem_cons_of_mem _)
      | false =>
        rw [hk, cond_false, List.mem_cons] at h
        rcases h with h | h
        · exact .inr (h ▸ List.mem_cons_self)
        · exact (ih h).imp id (List.mem_cons_of_mem _)
theorem mem_setTk {k g len : Nat} {ty : TypeId} {e : Nat × Nat × Nat × TypeId} : ∀ {l : List (Nat × Nat × Nat × TypeId)}, (l.Pairwise fun a b => a.1 < b.1) → e ∈ setTk k g len ty l → e = (k, g, len, ty) ∨ (e ∈ l ∧ e.1 ≠ k) := by
  intro l
  induction l with
  | nil => intro _ h; simp [setTk] at h; exact .inl h
  | cons c l ih =>
    intro hp h
    rw [List.pairwise_cons] at hp
    unfold setTk at h
    cases hb : Nat.blt k c.1 with
    | true =>
      rw [hb, cond_true, List.mem_cons] at h
      have hb' : k < c.1 := by simpa using hb
      refine h.imp id fun h => ⟨h, ?_⟩
      rcases List.mem_cons.1 h with rfl | h
      · omega
      · have := hp.1 e h; omega
    | false =>
      rw [hb, cond_false] at h
      cases hk : c.1 == k with
      | true =>
        rw [hk, cond_true, List.mem_cons] at h
        have hk' : c.1 = k := by simpa using hk
        exact h.imp id fun h => ⟨List.mem_cons_of_mem _ h, by have := hp.1 e h; omega⟩
      | false =>
        rw [hk, cond_false, List.mem_cons] at h
        rcases h with rfl | h
        · exact .inr ⟨List.mem_cons_self, by simpa using hk⟩
        · exact (ih hp.2 h).imp id fun h => ⟨List.mem_cons_of_mem _ h.1, h.2⟩
theorem srt_setTk {k g len : Nat} {ty : TypeId} : ∀ {l : List (Nat × Nat × Nat × TypeId)}, (l.Pairwise fun a b => a.1 < b.1) → (setTk k g len ty l).Pairwise fun a b => a.1 < b.1 := by
  intro l
  induction l with
  | nil => intro _; simp [setTk]
  | cons c l ih =>
    intro hp
    have hp' := hp
    rw [List.pairwise_cons] at hp
    unfold setTk
    cases hb : Nat.blt k c.1 with
    | true =>
      rw [cond_true, List.pairwise_cons]
      have hb' : k < c.1 := by simpa using hb
      refine ⟨fun e h => ?_, hp'⟩
      rcases List.mem_cons.1 h with rfl | h
      · exact hb'
      · have := hp.1 e h; simp only; omega
    | false =>
      rw [cond_false]
      have hb' : c.1 ≤ k := Nat.le_of_not_lt fun q => by rw [← Nat.blt_eq] at q; rw [q] at hb; cases hb
      cases hk : c.1 == k with
      | true =>
        rw [cond_true, List.pairwise_cons]
        have hk' : c.1 = k := by simpa using hk
        exact ⟨fun e h => by have := hp.1 e h; simp only; omega, hp.2⟩
      | false =>
        rw [cond_false, List.pairwise_cons]
        have hk' : c.1 ≠ k := by simpa using hk
        refine ⟨fun e h => ?_, ih hp.2⟩
        rcases mem_setTk' h with rfl | h
        · simp only; omega
        · exact hp.1 e h
theorem setTk_low {k g m : Nat} {ty : TypeId} {l : List (Nat × Nat × Nat × TypeId)} (h : ∀ e ∈ l, k < e.1) : setTk k g m ty l = (k, g, m, ty) :: l := by
  cases l with
  | nil => rfl
  | cons c l =>
    unfold setTk
    have : Nat.blt k c.1 = true := by rw [Nat.blt_eq]; exact h c List.mem_cons_self
    rw [this, cond_true]
theorem setTk_filter {k g m : Nat} {ty : TypeId} : ∀ {l : List (Nat × Nat × Nat × TypeId)}, (l.Pairwise fun a b => a.1 < b.1) → setTk k g m ty l = setTk k g m ty (l.filter fun e => !(e.1 == k)) := by
  intro l
  induction l with
  | nil => intro _; rfl
  | cons c l ih =>
    intro hp
    rw [List.pairwise_cons] at hp
    have hself : ∀ l' : List (Nat × Nat × Nat × TypeId), (∀ e ∈ l', k < e.1) → l'.filter (fun e => !(e.1 == k)) = l' := fun l' hl => List.filter_eq_self.2 fun e he => by
      have := hl e he
      have : ¬ e.1 = k := by omega
      simp [this]
    rcases Nat.lt_trichotomy k c.1 with q | q | q
    · have hall : ∀ e ∈ c :: l, k < e.1 := fun e he => by
        rcases List.mem_cons.1 he with rfl | he
        · exact q
        · exact Nat.lt_trans q (hp.1 e he)
      rw [hself _ hall]
    · have hall : ∀ e ∈ l, k < e.1 := fun e he => by rw [q]; exact hp.1 e he
      have h1 : Nat.blt k c.1 = false := by
        cases hb : Nat.blt k c.1 with
        | false => rfl
        | true => rw [Nat.blt_eq] at hb; omega
      have h2 : (c.1 == k) = true := by rw [q]; exact beq_self_eq_true _
      rw [List.filter_cons_of_neg (by rw [h2]; simp), hself l hall, setTk_low hall]
      unfold setTk
      rw [h1, h2]; rfl
    · have h1 : Nat.blt k c.1 = false := by
        cases hb : Nat.blt k c.1 with
        | false => rfl
        | true => rw [Nat.blt_eq] at hb; omega
      have h2 : (c.1 == k) = false := by simp; omega
      rw [List.filter_cons_of_pos (by rw [h2]; rfl)]
      unfold setTk
      simp only [h1, h2, cond_false]; rw [ih hp.2]
/-- A right to append is laid down: a new one, or an old one that has gone on; others at its place are given up. -/
theorem Mem.setTk {g : G} {s s' : St} {w : World} {B k t len b e lim : Nat} {ty : TypeId} (h : Mem g s w B) (hroom : g.room t len = none) (hnx : ∀ t, Used s.nx t → Used s'.nx t) (ht : Used s'.nx t) (hl : Live (g.tk t len b e lim) w B ty t len b e lim)
    (h1 : s'.hp = s.hp) (h3 : s'.lv = Ev.setTk k t len ty s.lv) (hf1 : ∀ x ∈ s.hp, ∀ n l, g.eta x.g ≠ some (b, n, l)) (hf2 : ∀ e ∈ s.lv, e.1 ≠ k → e.2.1 ≠ t ∧ ∀ x y, g.room e.2.1 e.2.2.1 ≠ some (b, x, y)) : Mem (g.tk t len b e lim) s' w B := by
  have hle := G.tk_le (b := b) (e := e) (lim := lim) hroom
  have hne : ∀ e' : Nat × Nat × Nat × TypeId, e' ∈ s.lv → e'.1 ≠ k → (g.tk t len b e lim).room e'.2.1 e'.2.2.1 = g.room e'.2.1 e'.2.2.1 := fun e' he hk => by
    unfold G.tk; simp only; rw [if_neg (fun q => (hf2 e' he hk).1 q.1)]
  exact {
    held := h.held
    base := h.base
    nod := by rw [h1]; exact h.nod
    blks := fun x hx => by
      rw [h1] at hx
      obtain ⟨b', lim', ho⟩ := h.blks x hx
      exact ⟨b', lim', ho.keep hle (fun _ => rfl) (Nat.le_refl _) rfl⟩
    inj := by rw [h1]; exact h.inj
    old := fun x hx => by rw [h1] at hx; exact hnx _ (h.old x hx)
    etaN := fun t' h' => h.etaN t' (fun q => h' (hnx _ q))
    srt := by rw [h3]; exact srt_setTk h.srt
    roomN := fun t' l h' => by
      unfold G.tk; simp only; rw [if_neg (fun (q : t' = t ∧ l = len) => h' (q.1 ▸ ht))]; exact h.roomN t' l (fun q => h' (hnx _ q))
    toks := fun e' he => by
      rw [h3] at he
      rcases mem_setTk h.srt he with rfl | ⟨he, hk⟩
      · exact ⟨b, e, lim, hl⟩
      · obtain ⟨b', x, y, hlv⟩ := h.toks e' he
        refine ⟨b', x, y, hlv.keep hle (fun _ => rfl) (fun l hlt => ?_) (Nat.le_refl _) rfl⟩
        unfold G.tk; simp only; rw [if_neg (fun q => (hf2 e' he hk).1 q.1)]; exact hlv.last l hlt
    oldT := fun e' he => by
      rw [h3] at he
      rcases mem_setTk h.srt he with rfl | ⟨he, hk⟩
      · exact ht
      · exact hnx _ (h.oldT e' he)
    tnod := fun e1 he1 e2 he2 e => by
      rw [h3] at he1 he2
      rcases mem_setTk h.srt he1 with q1 | ⟨he1, hk1⟩
      · rcases mem_setTk h.srt he2 with q2 | ⟨he2, hk2⟩
        · rw [q1, q2]
        · rw [q1] at e; exact absurd e.symm (hf2 e2 he2 hk2).1
      · rcases mem_setTk h.srt he2 with q2 | ⟨he2, hk2⟩
        · rw [q2] at e; exact absurd e (hf2 e1 he1 hk1).1
        · exact h.tnod e1 he1 e2 he2 e
    tinj := fun e1 he1 e2 he2 b' x y x' y' hr1 hr2 => by
      rw [h3] at he1 he2
      have hnew : (g.tk t len b e lim).room t len = some (b, e, lim) := hl.room
      rcases mem_setTk h.srt he1 with rfl | ⟨he1, hk1⟩
      · rcases mem_setTk h.srt he2 with rfl | ⟨he2, hk2⟩
        · rfl
        · rw [hne e2 he2 hk2] at hr2
          simp only at hr1
          rw [hnew] at hr1; injection hr1 with hr1; simp only [Prod.mk.injEq] at hr1
          obtain ⟨rfl, _, _⟩ := hr1
          exact absurd hr2 ((hf2 e2 he2 hk2).2 _ _)
      · rw [hne e1 he1 hk1] at hr1
        rcases mem_setTk h.srt he2 with rfl | ⟨he2, hk2⟩
        · simp only at hr2
          rw [hnew] at hr2; injection hr2 with hr2; simp only [Prod.mk.injEq] at hr2
          obtain ⟨rfl, _, _⟩ := hr2
          exact absurd hr1 ((hf2 e1 he1 hk1).2 _ _)
        · rw [hne e2 he2 hk2] at hr2
          exact h.tinj e1 he1 e2 he2 b' x y x' y' hr1 hr2
    apart := fun e' he x hx b' p q n l hr => by
      rw [h3] at he; rw [h1] at hx
      rcases mem_setTk h.srt he with rfl | ⟨he, hk⟩
      · simp only at hr
        have hnew : (g.tk t len b e lim).room t len = some (b, e, lim) := hl.room
        rw [hnew] at hr; injection hr with hr; simp only [Prod.mk.injEq] at hr
        obtain ⟨rfl, _, _⟩ := hr
        exact hf1 x hx n l
      · rw [hne e' he hk] at hr
        exact h.apart e' he x hx b' p q n l hr }
/-- A new variable or row of our own. -/
def G.var (g : G) (t b n lim : Nat) : G := { g with eta := fun t' => if t' = t then some (b, n, lim) else g.eta t' }
theorem G.var_le {g : G} {t b n lim : Nat} (h : g.eta t = none) : g.le (g.var t b n lim) where
  fz := fun _ _ _ h => h
  eta := fun t' r hr => by
    unfold G.var
    simp only
    rw [if_neg (fun e => by rw [e, h] at hr; cases hr)]
    exact hr
  room := fun _ _ _ h => h
theorem mem_addBlk {x b : Blk} : ∀ {l : List Blk}, x ∈ addBlk b l → x = b ∨ x ∈ l := by
  intro l
  induction l with
  | nil => intro h; simp [addBlk] at h; exact .inl h
  | cons c l ih =>
    intro h
    unfold addBlk at h
    cases hb : Nat.blt b.k c.k with
    | true =>
      rw [hb, cond_true] at h
      exact List.mem_cons.1 h
    | false =>
    rw [hb, cond_false] at h
    cases hk : c.k == b.k with
    | true =>
      rw [hk, cond_true] at h
      rcases List.mem_cons.1 h with h | h
      · exact .inl h
      · exact .inr (List.mem_cons_of_mem _ h)
    | false =>
      rw [hk, cond_false] at h
      rcases List.mem_cons.1 h with h | h
      · exact .inr (h ▸ List.mem_cons_self)
      · rcases ih h with h | h
        · exact .inl h
        · exact .inr (List.mem_cons_of_mem _ h)
theorem nod_addBlk {b : Blk} : ∀ {l : List Blk}, (l.map (·.g)).Nodup → (∀ x ∈ l, x.g ≠ b.g) → ((addBlk b l).map (·.g)).Nodup := by
  intro l
  induction l with
  | nil => intro _ _; simp [addBlk]
  | cons c l ih =>
    intro h hn
    have h0 := h
    rw [List.map_cons, List.nodup_cons] at h
    unfold addBlk
    cases hb : Nat.blt b.k c.k with
    | true =>
      rw [cond_true, List.map_cons, List.nodup_cons]
      refine ⟨fun hm => ?_, h0⟩
      obtain ⟨y, hy, he⟩ := List.mem_map.1 hm
      exact hn y hy he
    | false =>
    rw [cond_false]
    cases hk : c.k == b.k with
    | true =>
      rw [cond_true, List.map_cons, List.nodup_cons]
      refine ⟨fun hm => ?_, h.2⟩
      obtain ⟨y, hy, he⟩ := List.mem_map.1 hm
      exact hn y (List.mem_cons_of_mem _ hy) he
    | false =>
      rw [cond_false, List.map_cons, List.nodup_cons]
      refine ⟨fun hm => ?_, ih h.2 (fun x hx => hn x (List.mem_cons_of_mem _ hx))⟩
      obtain ⟨y, hy, he⟩ := List.mem_map.1 hm
      rcases mem_addBlk hy with rfl | hy
      · exact hn c List.mem_cons_self he.symm
      · exact h.1 (List.mem_map.2 ⟨y, hy, he⟩)
theorem Mem.addAny {g : G} {s s' : St} {w : World} {B lim : Nat} {x : Blk} {b : Nat} (h : Mem g s w B) (hx : x.g = s.nw x.k) (ho : Own (g.var x.g b x.n lim) w B x b lim) (hf : Fresh g s b)
    (h1 : ∀ y ∈ s'.hp, y = x ∨ y ∈ s.hp) (h1n : (s'.hp.map (·.g)).Nodup) (h2 : s'.nx = bump x.k s.nx) (h3 : s'.lv = s.lv) : Mem (g.var x.g b x.n lim) s' w B := by
  have hnu : ¬Used s.nx x.g := by rw [hx]; exact not_used _ _
  have hle := G.var_le (b := b) (n := x.n) (lim := lim) (h.etaN x.g hnu)
  have hne : ∀ y ∈ s.hp, (g.var x.g b x.n lim).eta y.g = g.eta y.g := fun y hy => by
    unfold G.var; simp only; rw [if_neg (fun (e : y.g = x.g) => hnu (e ▸ h.old y hy))]
  have hself : (g.var x.g b x.n lim).eta x.g = some (b, x.n, lim) := ho.eta
  exact {
    held := h.held
    base := h.base
    nod := h1n
    blks := fun y hy => by
      rcases h1 _ hy with rfl | hy
      · exact ⟨b, lim, ho⟩
      · obtain ⟨b', lim', ho'⟩ := h.blks y hy
        exact ⟨b', lim', ho'.keep hle (fun _ => rfl) (Nat.le_refl _) rfl⟩
    inj := fun y hy z hz b' n l n' l' e1 e2 => by
      rcases h1 _ hy with hy2 | hy2
      · rcases h1 _ hz with hz2 | hz2
        · rw [hy2, hz2]
        · rw [hne z hz2] at e2
          rw [hy2, hself] at e1; injection e1 with e1; simp only [Prod.mk.injEq] at e1
          rw [← e1.1] at e2
          exact absurd e2 (hf.hp z hz2 _ _)
      · rw [hne y hy2] at e1
        rcases h1 _ hz with hz2 | hz2
        · rw [hz2, hself] at e2; injection e2 with e2; simp only [Prod.mk.injEq] at e2
          rw [← e2.1] at e1
          exact absurd e1 (hf.hp y hy2 _ _)
        · rw [hne z hz2] at e2
          exact h.inj y hy2 z hz2 b' n l n' l' e1 e2
    old := fun y hy => by
      rw [h2]
      rcases h1 _ hy with rfl | hy
      · rw [hx]; exact used_new _ _
      · exact (h.old y hy).bump _
    etaN := fun t ht => by
      rw [h2] at ht
      unfold G.var; simp only; rw [if_neg (fun (q : t = x.g) => ht (by rw [q, hx]; exact used_new _ _))]; exact h.etaN t (fun q => ht (q.bump _))
    srt := by rw [h3]; exact h.srt
    roomN := fun t l ht => h.roomN t l (fun q => ht (by rw [h2]; exact q.bump _))
    toks := fun e he => by
      rw [h3] at he
      obtain ⟨b', p, q, hl⟩ := h.toks e he
      exact ⟨b', p, q, hl.keep hle (fun _ => rfl) hl.last (Nat.le_refl _) rfl⟩
    oldT := fun e he => by rw [h3] at he; rw [h2]; exact (h.oldT e he).bump _
    tnod := by rw [h3]; exact h.tnod
    tinj := by rw [h3]; exact h.tinj
    apart := fun e he y hy b' p q n l hr => by
      rw [h3] at he
      rcases h1 _ hy with rfl | hy
      · intro e1
        rw [hself] at e1; injection e1 with e1; simp only [Prod.mk.injEq] at e1
        obtain ⟨rfl, _, _⟩ := e1
        exact hf.lv e he _ _ hr
      · rw [hne y hy]; exact h.apart e he y hy b' p q n l hr }
theorem Mem.addBlk {g : G} {s s' : St} {w : World} {B lim : Nat} {x : Blk} {b : Nat} (h : Mem g s w B) (hx : x.g = s.nw x.k) (ho : Own (g.var x.g b x.n lim) w B x b lim) (hf : Fresh g s b)
    (h1 : s'.hp = Ev.addBlk x s.hp) (h2 : s'.nx = bump x.k s.nx) (h3 : s'.lv = s.lv) : Mem (g.var x.g b x.n lim) s' w B :=
  have hnu : ¬Used s.nx x.g := by rw [hx]; exact not_used _ _
  h.addAny hx ho hf (fun y hy => mem_addBlk (by rw [← h1]; exact hy)) (by rw [h1]; exact nod_addBlk h.nod (fun y hy e => hnu (e ▸ h.old y hy))) h2 h3
theorem Mem.tm {g : G} {s s' : St} {w : World} {B : Nat} (h : Mem g s w B) (h1 : s'.hp = s.hp) (h2 : s'.nx = s.nx) (h3 : s'.lv = s.lv) : Mem g s' w B where
  held := h.held
  base := h.base
  nod := by rw [h1]; exact h.nod
  blks := by rw [h1]; exact h.blks
  inj := by rw [h1]; exact h.inj
  old := by rw [h1, h2]; exact h.old
  etaN := by rw [h2]; exact h.etaN
  roomN := by rw [h2]; exact h.roomN
  toks := by rw [h3]; exact h.toks
  oldT := by rw [h3, h2]; exact h.oldT
  tnod := by rw [h3]; exact h.tnod
  srt := by rw [h3]; exact h.srt
  tinj := by rw [h3]; exact h.tinj
  apart := by rw [h1, h3]; exact h.apart
theorem Mem.put {g : G} {s : St} {w : World} {B : Nat} (h : Mem g s w B) (d : Option Tmp) (x : AV) : Mem g (s.put d x) w B := by
  cases d <;> exact h.tm rfl rfl rfl
theorem Mem.drew {g : G} {s : St} {w : World} {B : Nat} (h : Mem g s w B) : Mem g s w.drew B :=
  h.grow (.refl g) rfl rfl (fun _ _ _ => rfl) ⟨rfl, rfl, rfl, Nat.le_refl _, fun _ _ _ => rfl⟩ (fun b o v hb hv => absurd (cell_lt (h.held _ _ _ hv)) (by omega))
/-- Rights to append are given up. -/
theorem Mem.drop {g : G} {s s' : St} {w : World} {B : Nat} (h : Mem g s w B) (h1 : s'.hp = s.hp) (h2 : s'.nx = s.nx) (h3' : s'.lv.Sublist s.lv) : Mem g s' w B :=
  have h3 := fun e he => h3'.subset (a := e) he
  {
    held := h.held
    base := h.base
    nod := by rw [h1]; exact h.nod
    blks := by rw [h1]; exact h.blks
    inj := by rw [h1]; exact h.inj
    old := by rw [h1, h2]; exact h.old
    etaN := by rw [h2]; exact h.etaN
    roomN := by rw [h2]; exact h.roomN
    toks := fun e he => h.toks e (h3 e he)
    oldT := fun e he => by rw [h2]; exact h.oldT e (h3 e he)
    tnod := fun e he e' he' => h.tnod e (h3 e he) e' (h3 e' he')
    tinj := fun e he e' he' => h.tinj e (h3 e he) e' (h3 e' he')
    apart := by rw [h1]; exact fun e he => h.apart e (h3 e he)
    srt := h.srt.sublist h3' }
/-- A block that is nobody's is written, and changes no more. -/
theorem Mem.write {g g' : G} {s : St} {w w' : World} {B b : Nat} (h : Mem g s w B) (hf : Fresh g s b) (hg : w.grownBy w' (some b)) (hle : g.le g') (heta : g'.eta = g.eta) (hroom : g'.room = g.room)
    (h1 : ∀ b' o, b' ≠ b → g'.fz b' o = g.fz b' o) (h2 : ∀ o v, g'.fz b o = some v → w'.cell? ⟨b, o, none⟩ = some v) : Mem g' s w' B where
  held := fun b' o v hv => by
    by_cases e : b' = b
    · subst e; exact h2 o v hv
    · rw [h1 b' o e] at hv
      rw [cell_of_block (hg.block b' (cell_lt (h.held _ _ _ hv)) (fun e' => e (by injection e')))]
      exact h.held _ _ _ hv
  base := Nat.le_trans h.base hg.size
  nod := h.nod
  blks := fun x hx => by
    obtain ⟨b', lim, ho⟩ := h.blks x hx
    have hne : b' ≠ b := fun e => hf.hp x hx _ _ (e ▸ ho.eta)
    exact ⟨b', lim, ho.keep hle (fun o => h1 b' o hne) hg.size (hg.block b' ho.size (fun e' => hne (by injection e')))⟩
  inj := by rw [heta]; exact h.inj
  old := h.old
  etaN := by rw [heta]; exact h.etaN
  roomN := by rw [hroom]; exact h.roomN
  toks := fun e he => by
    obtain ⟨b', p, q, hl⟩ := h.toks e he
    have hne : b' ≠ b := fun e' => hf.lv e he _ _ (e' ▸ hl.room)
    exact ⟨b', p, q, hl.keep hle (fun o => h1 b' o hne) (by rw [hroom]; exact hl.last) hg.size (hg.block b' hl.size (fun e' => hne (by injection e')))⟩
  oldT := h.oldT
  tnod := h.tnod
  srt := h.srt
  tinj := by rw [hroom]; exact h.tinj
  apart := by rw [hroom, heta]; exact h.apart
theorem Mem.sub {w : World} {g : G} {s s' : St} {B : Nat} (h : Mem g s w B) (h1 : s'.hp.Sublist s.hp) (h2 : s'.nx = s.nx) (h3 : s'.lv = s.lv) : Mem g s' w B where
  held := h.held
  base := h.base
  nod := h.nod.sublist (h1.map _)
  blks := fun x hx => h.blks x (h1.subset hx)
  inj := fun x hx y hy => h.inj x (h1.subset hx) y (h1.subset hy)
  old := fun x hx => by rw [h2]; exact h.old x (h1.subset hx)
  etaN := by rw [h2]; exact h.etaN
  roomN := by rw [h2]; exact h.roomN
  toks := by rw [h3]; exact h.toks
  oldT := by rw [h3, h2]; exact h.oldT
  tnod := by rw [h3]; exact h.tnod
  srt := by rw [h3]; exact h.srt
  tinj := by rw [h3]; exact h.tinj
  apart := by rw [h3]; exact fun e he x hx => h.apart e he x (h1.subset hx)
end Go.Ev
