/-
  What a plain value stands for, in a world: the relation and its first laws; no condition.
-/
import Derived.Test.YtjfpcgkgdajcfaaGreatDoorEv
import Derived.Orders
namespace Go.Ev
open Go

/-- What is known of the memory: cells that never change any more; where our own variables and rows lie (block, cells an element, cells in all); where the rights to append lead (block, end, limit). -/
structure G where
  fz : Nat → Nat → Option Value
  eta : Nat → Option (Nat × Nat × Nat)
  room : Nat → Nat → Option (Nat × Nat × Nat)
structure G.le (g g' : G) : Prop where
  fz : ∀ b o v, g.fz b o = some v → g'.fz b o = some v
  eta : ∀ a b, g.eta a = some b → g'.eta a = some b
  room : ∀ t l r, g.room t l = some r → g'.room t l = some r
theorem G.le.refl (g : G) : g.le g := ⟨fun _ _ _ h => h, fun _ _ h => h, fun _ _ _ h => h⟩
theorem G.le.trans {a b c : G} (h : a.le b) (h' : b.le c) : a.le c :=
  ⟨fun _ _ _ x => h'.fz _ _ _ (h.fz _ _ _ x), fun _ _ x => h'.eta _ _ (h.eta _ _ x), fun _ _ _ x => h'.room _ _ _ (h.room _ _ _ x)⟩
/-- What the right to append says of a slice. -/
def Tok.fits (g : G) (tok : Tok) (a : Addr) (n len cap : Nat) : Prop :=
  match tok with
  | .full => cap = len
  | .own _ t => a.off = 0 ∧ g.room t len = some (a.block, len * n, cap * n)
  | .no => True
inductive Rep (g : G) : AV → Value → Prop
  | int (k : IntKind) (n : Int) : Rep g (.int k n) (.int k n)
  | bool (x : Bool) : Rep g (.bool x) (.bool x)
  | str (l : List UInt8) (s : ByteArray) (h : s.data.toList = l) : Rep g (.str l) (.string s)
  | val (x : Value) : Rep g (.val x) x
  | agg (cs : List AV) (vs : Array Value) (hl : vs.size = cs.length) (h : ∀ (i : Nat) (x : AV) (y : Value), cs[i]? = some x → vs[i]? = some y → Rep g x y) : Rep g (.agg cs) (.agg vs)
  | tup (cs : List AV) (vs : Array Value) (hl : vs.size = cs.length) (h : ∀ (i : Nat) (x : AV) (y : Value), cs[i]? = some x → vs[i]? = some y → Rep g x y) : Rep g (.tup cs) (.tuple vs)
  | slNil (n : Nat) (tok : Tok) (ht : ∀ k t, tok ≠ .own k t) : Rep g (.sl true n [] tok) (.slice none 0 0)
  | sl (n : Nat) (els : List AV) (tok : Tok) (a : Addr) (cap : Nat) (f : Nat → Nat → Value) (hs : a.spot = none) (hn : ∀ e ∈ els, AV.row n e = true)
      (h1 : ∀ i j, i < els.length → j < n → g.fz a.block (a.off + (i * n + j)) = some (f i j))
      (h2 : ∀ (i j : Nat) (e c : AV), els[i]? = some e → e.cells[j]? = some c → Rep g c (f i j))
      (hc : els.length ≤ cap) (ht : tok.fits g a n els.length cap) : Rep g (.sl false n els tok) (.slice (some a) els.length cap)
  | hs (k t n lo len : Nat) (full : Bool) (b lim cap : Nat) (h : g.eta t = some (b, n, lim)) (hc : len ≤ cap) (hl : (lo + cap) * n ≤ lim) (hf : full = true → cap = len) :
      Rep g (.hs k t n lo len full) (.slice (some ⟨b, lo * n, none⟩) len cap)
  | ep (x : AV) (a : Addr) (f : Nat → Value) (hs : a.spot = none) (hn : x.cells.all AV.isCell = true)
      (h1 : ∀ j, j < x.cells.length → g.fz a.block (a.off + j) = some (f j)) (h2 : ∀ (j : Nat) (c : AV), x.cells[j]? = some c → Rep g c (f j)) : Rep g (.ep x) (.pointer (some a))
  | pt (k t i o b n lim : Nat) (h : g.eta t = some (b, n, lim)) : Rep g (.pt k t i o) (.pointer (some ⟨b, i * n + o, none⟩))
  | fn (f : Fn) (c1 c2 : List AV) (v1 v2 : Array Value) (l1 : v1.size = c1.length) (l2 : v2.size = c2.length)
      (h1 : ∀ (i : Nat) (x : AV) (y : Value), c1[i]? = some x → v1[i]? = some y → Rep g x y)
      (h2 : ∀ (i : Nat) (x : AV) (y : Value), c2[i]? = some x → v2[i]? = some y → Rep g x y) : Rep g (.fn f c1 c2) (.func f v1 v2)
  | ifc (t : TypeId) (x : AV) (y : Value) (h : Rep g x y) : Rep g (.ifc t x) (.iface t y)
theorem Tok.fits.mono {g g' : G} (hg : g.le g') {tok : Tok} {a : Addr} {n len cap : Nat} (h : tok.fits g a n len cap) : tok.fits g' a n len cap := by
  cases tok with
  | own k t => exact ⟨h.1, hg.room _ _ _ h.2⟩
  | full => exact h
  | no => trivial
theorem Rep.mono {g g' : G} (hg : g.le g') {x : AV} {y : Value} (h : Rep g x y) : Rep g' x y := by
  induction h with
  | int k n => exact .int k n
  | bool x => exact .bool x
  | str l s h => exact .str l s h
  | val x => exact .val x
  | agg cs vs hl _ ih => exact .agg cs vs hl ih
  | tup cs vs hl _ ih => exact .tup cs vs hl ih
  | slNil n tok ht => exact .slNil n tok ht
  | sl n els tok a cap f hs hn h1 _ hc ht ih => exact .sl n els tok a cap f hs hn (fun i j hi hj => hg.fz _ _ _ (h1 i j hi hj)) ih hc (ht.mono hg)
  | hs k t n lo len full b lim cap h hc hl hf => exact .hs k t n lo len full b lim cap (hg.eta _ _ h) hc hl hf
  | ep x a f hs hn h1 _ ih => exact .ep x a f hs hn (fun i hi => hg.fz _ _ _ (h1 i hi)) ih
  | pt k t i o b n lim h => exact .pt k t i o b n lim (hg.eta _ _ h)
  | fn f c1 c2 v1 v2 l1 l2 _ _ i1 i2 => exact .fn f c1 c2 v1 v2 l1 l2 i1 i2
  | ifc t x y _ ih => exact .ifc t x y ih
/-- Lists of values, cell by cell. -/
def Reps (g : G) (cs : List AV) (vs : List Value) : Prop := vs.length = cs.length ∧ ∀ (i : Nat) (x : AV) (y : Value), cs[i]? = some x → vs[i]? = some y → Rep g x y
theorem Reps.nil (g : G) : Reps g [] [] := ⟨rfl, fun i x y h => by simp at h⟩
theorem Reps.cons {g : G} {x : AV} {y : Value} {cs : List AV} {vs : List Value} (h : Rep g x y) (hs : Reps g cs vs) : Reps g (x :: cs) (y :: vs) := by
  refine ⟨by simp [hs.1], fun i a b ha hb => ?_⟩
  cases i with
  | zero => simp at ha hb; subst ha; subst hb; exact h
  | succ i => simp at ha hb; exact hs.2 i a b ha hb
theorem Reps.inv {g : G} {x : AV} {cs : List AV} {vs : List Value} (h : Reps g (x :: cs) vs) : ∃ y l, vs = y :: l ∧ Rep g x y ∧ Reps g cs l := by
  obtain ⟨hl, h⟩ := h
  cases vs with
  | nil => simp at hl
  | cons y l => exact ⟨y, l, rfl, h 0 x y (by simp) (by simp), by simpa using hl, fun i a b ha hb => h (i + 1) a b (by simpa using ha) (by simpa using hb)⟩
theorem Reps.inv0 {g : G} {vs : List Value} (h : Reps g [] vs) : vs = [] := by
  have := h.1; cases vs <;> simp_all
theorem Reps.mono {g g' : G} (hg : g.le g') {cs : List AV} {vs : List Value} (h : Reps g cs vs) : Reps g' cs vs := ⟨h.1, fun i x y hx hy => (h.2 i x y hx hy).mono hg⟩
theorem Reps.app {g : G} {cs cs' : List AV} {vs vs' : List Value} (h : Reps g cs vs) (h' : Reps g cs' vs') : Reps g (cs ++ cs') (vs ++ vs') := by
  refine ⟨by simp [h.1, h'.1], fun i x y hx hy => ?_⟩
  rw [List.getElem?_append] at hx hy
  rw [h.1] at hy
  split at hx
  · rename_i hi; rw [if_pos hi] at hy; exact h.2 i x y hx hy
  · rename_i hi; rw [if_neg hi] at hy; exact h'.2 _ x y hx hy
theorem Reps.takes {g : G} {cs : List AV} {vs : List Value} (h : Reps g cs vs) (n : Nat) : Reps g (cs.take n) (vs.take n) := by
  refine ⟨by simp [h.1], fun i x y hx hy => ?_⟩
  rw [List.getElem?_take] at hx hy
  split at hx
  · rename_i hi; rw [if_pos hi] at hy; exact h.2 i x y hx hy
  · cases hx
theorem Reps.drops {g : G} {cs : List AV} {vs : List Value} (h : Reps g cs vs) (n : Nat) : Reps g (cs.drop n) (vs.drop n) := by
  refine ⟨by simp [h.1], fun i x y hx hy => ?_⟩
  rw [List.getElem?_drop] at hx hy
  exact h.2 _ x y hx hy
theorem Reps.agg {g : G} {cs : List AV} {vs : Array Value} (h : Reps g cs vs.toList) : Rep g (.agg cs) (.agg vs) :=
  .agg cs vs (by simpa using h.1) fun i x y hx hy => h.2 i x y hx (by simpa using hy)
theorem Reps.tup {g : G} {cs : List AV} {vs : Array Value} (h : Reps g cs vs.toList) : Rep g (.tup cs) (.tuple vs) :=
  .tup cs vs (by simpa using h.1) fun i x y hx hy => h.2 i x y hx (by simpa using hy)
theorem Rep.reps {g : G} {cs : List AV} {v : Value} (h : Rep g (.agg cs) v) : ∃ vs : Array Value, v = .agg vs ∧ Reps g cs vs.toList := by
  cases h with
  | agg _ vs hl h => exact ⟨vs, rfl, by simpa using hl, fun i x y hx hy => h i x y hx (by simpa using hy)⟩
theorem Rep.repsT {g : G} {cs : List AV} {v : Value} (h : Rep g (.tup cs) v) : ∃ vs : Array Value, v = .tuple vs ∧ Reps g cs vs.toList := by
  cases h with
  | tup _ vs hl h => exact ⟨vs, rfl, by simpa using hl, fun i x y hx hy => h i x y hx (by simpa using hy)⟩
theorem Rep.of0 (g : G) (x : Value) : Rep g (.of0 x) x := by
  unfold AV.of0
  split
  · exact .int _ _
  · exact .bool _
  · exact .str _ _ rfl
  · exact .slNil _ .full (fun k t h => by cases h)
  · exact .val _
theorem Rep.of1 (g : G) (x : Value) : Rep g (.of1 x) x := by
  unfold AV.of1
  split
  · rename_i cs
    refine .agg _ cs (by simp) (fun i a b ha hb => ?_)
    simp only [List.getElem?_map, Array.getElem?_toList, hb, Option.map_some, Option.some.injEq] at ha
    subst ha; exact Rep.of0 g b
  · exact Rep.of0 g x
theorem Rep.of (g : G) (x : Value) : Rep g (.of x) x := by
  unfold AV.of
  split
  · rename_i vs
    refine .tup _ vs (by simp) (fun i a b ha hb => ?_)
    simp only [List.getElem?_map, Array.getElem?_toList, hb, Option.map_some, Option.some.injEq] at ha
    subst ha; exact Rep.of1 g b
  · exact Rep.of1 g x
theorem Rep.undef (g : G) : Rep g .undef Go.undef := .tup [] #[] rfl (fun i a b ha => by simp at ha)
/-- What may stand in a cell. -/
def cellV : Value → Bool
  | .agg _ | .tuple _ => false
  | _ => true
theorem Rep.cellV {g : G} {x : AV} {v : Value} (h : Rep g x v) (hx : x.isCell = true) : cellV v = true := by
  cases h with
  | val x => cases v <;> first | rfl | cases hx
  | agg => cases hx
  | tup => cases hx
  | _ => rfl
/-- The cells of a value stand for the value's cells. -/
theorem Rep.cells {g : G} {x : AV} {v : Value} (h : Rep g x v) (hx : x.cells.all AV.isCell = true) : Reps g x.cells v.cells.toList ∧ ∀ c ∈ v.cells.toList, Ev.cellV c = true := by
  cases h with
  | agg cs vs hl h =>
    have hr : Reps g cs vs.toList := ⟨by simpa using hl, fun i x y hx hy => h i x y hx (by simpa using hy)⟩
    refine ⟨hr, fun c hc => ?_⟩
    obtain ⟨i, hi⟩ := List.mem_iff_getElem?.1 hc
    have hlt : i < cs.length := by rw [← hr.1]; exact (List.getElem?_eq_some_iff.1 hi).1
    exact (hr.2 i _ _ (List.getElem?_eq_getElem hlt) hi).cellV (List.all_eq_true.1 hx _ (List.getElem_mem hlt))
  | val x =>
    have hc : AV.isCell (.val v) = true := by simpa [AV.cells] using hx
    cases v <;> first | exact ⟨.cons (.val _) (.nil g), fun c hc => by simp [Value.cells] at hc; subst hc; rfl⟩ | cases hc
  | tup => simp [AV.cells, AV.isCell] at hx
  | int k n => exact ⟨.cons (.int k n) (.nil g), fun c hc => by simp [Value.cells] at hc; subst hc; rfl⟩
  | bool x => exact ⟨.cons (.bool x) (.nil g), fun c hc => by simp [Value.cells] at hc; subst hc; rfl⟩
  | str l s h => exact ⟨.cons (.str l s h) (.nil g), fun c hc => by simp [Value.cells] at hc; subst hc; rfl⟩
  | slNil n tok ht => exact ⟨.cons (.slNil n tok ht) (.nil g), fun c hc => by simp [Value.cells] at hc; subst hc; rfl⟩
  | sl n els tok a cap f hs hn h1 h2 hc ht => exact ⟨.cons (.sl n els tok a cap f hs hn h1 h2 hc ht) (.nil g), fun c hc => by simp [Value.cells] at hc; subst hc; rfl⟩
  | hs k t n lo len full b lim cap h hc hl hf => exact ⟨.cons (.hs k t n lo len full b lim cap h hc hl hf) (.nil g), fun c hc => by simp [Value.cells] at hc; subst hc; rfl⟩
  | ep x a f hs hn h1 h2 => exact ⟨.cons (.ep x a f hs hn h1 h2) (.nil g), fun c hc => by simp [Value.cells] at hc; subst hc; rfl⟩
  | pt k t i o b n lim h => exact ⟨.cons (.pt k t i o b n lim h) (.nil g), fun c hc => by simp [Value.cells] at hc; subst hc; rfl⟩
  | fn f c1 c2 v1 v2 l1 l2 h1 h2 => exact ⟨.cons (.fn f c1 c2 v1 v2 l1 l2 h1 h2) (.nil g), fun c hc => by simp [Value.cells] at hc; subst hc; rfl⟩
  | ifc t x y h => exact ⟨.cons (.ifc t x y h) (.nil g), fun c hc => by simp [Value.cells] at hc; subst hc; rfl⟩
theorem AV.row_iff {n : Nat} {x : AV} : x.row n = true ↔ x.cells.length = n ∧ x.cells.all AV.isCell = true := by
  unfold AV.row; simp
/-- Frames: the temporaries stand for each other. -/
def Tms (g : G) (s : St) (a : Act) : Prop := Reps g s.tm a.tmps.toList
theorem Tms.at {g : G} {s : St} {a : Act} (h : Tms g s a) (x : Operand) : Rep g (s.at x) (a.eval x) := by
  cases x with
  | tmp t =>
    show Rep g (s.tm.getD t .undef) (a.tmps.getD t Go.undef)
    have hl : a.tmps.size = s.tm.length := by have := h.1; rw [Array.length_toList] at this; exact this
    by_cases ht : t < s.tm.length
    · have ht2 : t < a.tmps.size := by rw [hl]; exact ht
      exact h.2 t _ _ (by rw [List.getD_eq_getElem?_getD, List.getElem?_eq_getElem ht]; rfl) (by rw [Array.getElem?_toList, Array.getElem?_eq_getElem ht2, Array.getD_eq_getD_getElem?, Array.getElem?_eq_getElem ht2]; rfl)
    · have ht2 : ¬ t < a.tmps.size := by rw [hl]; exact ht
      rw [List.getD_eq_getElem?_getD, List.getElem?_eq_none (Nat.le_of_not_lt ht), Array.getD_eq_getD_getElem?, Array.getElem?_eq_none (Nat.le_of_not_lt ht2)]
      exact Rep.undef g
  | const v => exact Rep.of g v
  | global n => exact .val _
  | func f => exact .fn _ [] [] #[] #[] rfl rfl (fun i x y h => by simp at h) (fun i x y h => by simp at h)
theorem Tms.put {g : G} {s : St} {a : Act} (h : Tms g s a) {x : AV} {v : Value} (hx : Rep g x v) (dst : Option Tmp) : Tms g (s.put dst x) (a.put dst v) := by
  cases dst with
  | none => exact h
  | some d =>
    obtain ⟨hl, hr⟩ := h
    show Reps g (s.tm.set d x) (a.tmps.setIfInBounds d v).toList
    refine ⟨by simpa using hl, fun i p q hp hq => ?_⟩
    rw [Array.toList_setIfInBounds] at hq
    rw [List.getElem?_set] at hp hq
    by_cases hd : d = i
    · subst hd
      simp only [if_true] at hp hq
      split at hp
      · split at hq
        · injection hp with hp; injection hq with hq; subst hp; subst hq; exact hx
        · cases hq
      · cases hp
    · rw [if_neg hd] at hp hq
      exact hr i p q hp hq
theorem Tms.mono {g g' : G} (hg : g.le g') {s : St} {a : Act} (h : Tms g s a) : Tms g' s a := Reps.mono hg h
theorem cnd_some {α : Type} {c : Bool} {x : Option α} {y : α} (h : cnd c x none = some y) : c = true ∧ x = some y := by
  cases c with
  | true => exact ⟨rfl, h⟩
  | false => cases h
theorem cnd_none {α : Type} {c : Bool} {x : Option α} {y : α} (h : cnd c none x = some y) : c = false ∧ x = some y := by
  cases c with
  | false => exact ⟨rfl, h⟩
  | true => cases h
theorem bif_some {α : Type} {c : Bool} {x : Option α} {y : α} (h : (bif c then x else none) = some y) : c = true ∧ x = some y := by
  cases c with
  | true => exact ⟨rfl, h⟩
  | false => cases h
end Go.Ev
