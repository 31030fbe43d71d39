/-
  Evaluation along a path: conditions, decisions, operations; no condition.
-/
import Derived.Test.YtjfpcgkgdajcfaaGreatDoorEvK
namespace Go.Ev
open Go

/-- What a path says: so many decisions (one more than the number) that are plain; a decision under a condition; what a call comes to: of clean arguments, of arguments read out, in the caller's own state; so many rounds of a loop one by one; what a loop comes to; a function with a meaning of its own. -/
inductive D where
  | c (n : Nat)
  | b (x : Bool)
  | o (x : Out)
  | n (x : Out)
  | d (r : Out × St)
  | u (n : Nat)
  | l (r : Ex × St)
  | e
abbrev R (α : Type) := Option (List Prop × List (Nat × Nat) × α × List D)
abbrev M (α : Type) := List D → R α
def Hold : List Prop → Prop
  | [] => True
  | p :: l => p ∧ Hold l
theorem Hold.app : ∀ {a b : List Prop}, Hold (a ++ b) → Hold a ∧ Hold b := by
  intro a
  induction a with
  | nil => intro b h; exact ⟨trivial, h⟩
  | cons p a ih => intro b h; exact ⟨⟨h.1, (ih h.2).1⟩, (ih h.2).2⟩
def Same (es : List (Nat × Nat)) : Prop := ∀ e ∈ es, e.1 = e.2
theorem Same.app {a b : List (Nat × Nat)} (h : Same (a ++ b)) : Same a ∧ Same b := ⟨fun e he => h e (List.mem_append_left _ he), fun e he => h e (List.mem_append_right _ he)⟩
/-- What is said along a path is so, where its conditions hold. -/
def Ok {α : Type} (x : M α) (y : Option α) : Prop := ∀ p cs es a q, x p = some (cs, es, a, q) → Hold cs → Same es → y = some a
section
variable {α β : Type}
def ret (a : α) : M α := fun p => some ([], [], a, p)
def noM : M α := fun _ => none
def liftM (y : Option α) : M α := fun p => y.map fun a => ([], [], a, p)
def bindM (x : M α) (f : α → M β) : M β := fun p => (x p).bind fun r => (f r.2.2.1 r.2.2.2).map fun q => (r.1 ++ q.1, r.2.1 ++ q.2.1, q.2.2)
def mapM' (f : α → β) (x : M α) : M β := fun p => (x p).map fun r => (r.1, r.2.1, f r.2.2.1, r.2.2.2)
def preM (c : Prop) (x : M α) : M α := fun p => (x p).map fun r => (c :: r.1, r.2)
def sameM (m n : Nat) (x : M α) : M α := fun p => (x p).map fun r => (r.1, (m, n) :: r.2.1, r.2.2)
def takeM (f : M α) (g : Bool → M α) : M α := fun p => match p with
  | .c 0 :: p => f p
  | .c (n + 1) :: p => f (.c n :: p)
  | .b x :: p => g x p
  | _ => none
def asmM (b : Bool) (x : M α) : M α := takeM (fun p => cnd b (x p) none) fun _ => preM (b = true) x
theorem Ok.ret (a : α) : Ok (Ev.ret a) (some a) := fun p cs es b q h _ _ => by
  unfold Ev.ret at h
  simp only [Option.some.injEq, Prod.mk.injEq] at h
  rw [h.2.2.1]
theorem Ok.no (y : Option α) : Ok (Ev.noM : M α) y := fun p cs es b q h _ _ => by cases h
theorem Ok.lift (y : Option α) : Ok (liftM y) y := fun p cs es b q h _ _ => by
  unfold liftM at h
  rw [Option.map_eq_some_iff] at h
  obtain ⟨a, ha, h⟩ := h
  simp only [Prod.mk.injEq] at h
  rw [ha, h.2.2.1]
theorem Ok.bindy {x : M α} {y : Option α} {f : α → M β} {g : α → Option β} (h : Ok x y) (k : ∀ a, y = some a → Ok (f a) (g a)) : Ok (bindM x f) (y.bind g) := fun p cs es b q e hc hs => by
  unfold bindM at e
  rw [Option.bind_eq_some_iff] at e
  obtain ⟨⟨c1, e1, a, p1⟩, h1, e⟩ := e
  rw [Option.map_eq_some_iff] at e
  obtain ⟨⟨c2, e2, b2⟩, h2, e⟩ := e
  simp only [Prod.mk.injEq] at e
  obtain ⟨rfl, rfl, rfl⟩ := e
  have hy := h p c1 e1 a p1 h1 (Hold.app hc).1 (Same.app hs).1
  rw [hy, Option.bind_some]
  exact k a hy p1 c2 e2 b q h2 (Hold.app hc).2 (Same.app hs).2
theorem Ok.bind {x : M α} {y : Option α} {f : α → M β} {g : α → Option β} (h : Ok x y) (k : ∀ a, Ok (f a) (g a)) : Ok (bindM x f) (y.bind g) := Ok.bindy h fun a _ => k a
theorem Ok.bindl {x : M α} {f : α → M β} {y : Option β} (h : ∀ a, Ok (f a) y) : Ok (bindM x f) y := fun p cs es b q e hc hs => by
  unfold bindM at e
  rw [Option.bind_eq_some_iff] at e
  obtain ⟨⟨c1, e1, a, p1⟩, h1, e⟩ := e
  rw [Option.map_eq_some_iff] at e
  obtain ⟨⟨c2, e2, b2⟩, h2, e⟩ := e
  simp only [Prod.mk.injEq] at e
  obtain ⟨rfl, rfl, rfl⟩ := e
  exact h a p1 c2 e2 b q h2 (Hold.app hc).2 (Same.app hs).2
theorem Ok.map {x : M α} {y : Option α} {f : α → β} (h : Ok x y) : Ok (mapM' f x) (y.map f) := fun p cs es b q e hc hs => by
  unfold mapM' at e
  rw [Option.map_eq_some_iff] at e
  obtain ⟨⟨c1, e1, a, p1⟩, h1, e⟩ := e
  simp only [Prod.mk.injEq] at e
  obtain ⟨rfl, rfl, rfl, rfl⟩ := e
  rw [h p _ _ a _ h1 hc hs]; rfl
theorem Ok.pre {c : Prop} {x : M α} {y : Option α} (h : c → Ok x y) : Ok (preM c x) y := fun p cs es b q e hc hs => by
  unfold preM at e
  rw [Option.map_eq_some_iff] at e
  obtain ⟨⟨c1, r⟩, h1, e⟩ := e
  simp only [Prod.mk.injEq] at e
  obtain ⟨rfl, rfl⟩ := e
  exact h hc.1 p _ _ _ _ h1 hc.2 hs
theorem Ok.same {m n : Nat} {x : M α} {y : Option α} (h : m = n → Ok x y) : Ok (sameM m n x) y := fun p cs es b q e hc hs => by
  unfold sameM at e
  rw [Option.map_eq_some_iff] at e
  obtain ⟨⟨c1, e1, r⟩, h1, e⟩ := e
  simp only [Prod.mk.injEq] at e
  obtain ⟨rfl, rfl, rfl⟩ := e
  exact h (hs (m, n) List.mem_cons_self) p _ _ _ _ h1 hc fun e he => hs e (List.mem_cons_of_mem _ he)
theorem Ok.take {f : M α} {g : Bool → M α} {y : Option α} (h : Ok f y) (h' : ∀ x, Ok (g x) y) : Ok (takeM f g) y := fun p cs es b q e hc hs => by
  unfold takeM at e
  split at e
  · exact h _ _ _ _ _ e hc hs
  · exact h _ _ _ _ _ e hc hs
  · exact h' _ _ _ _ _ _ e hc hs
  · cases e
theorem Ok.cnds {b : Bool} {x : M α} {y : Option α} (h : b = true → Ok x y) : Ok (fun p => cnd b (x p) none) y := fun p cs es a q e hc hs => by
  obtain ⟨h1, h2⟩ := cnd_some e
  exact h h1 p _ _ _ _ h2 hc hs
theorem Ok.asm' {b : Bool} {x : M α} {y : Option α} (h : b = true → Ok x y) : Ok (asmM b x) y := Ok.take (Ok.cnds h) fun _ => Ok.pre h
theorem Ok.asm {b : Bool} {x : M α} {y z : Option α} (h : b = true → Ok x y) : Ok (asmM b x) (cnd b y z) := Ok.asm' fun hb => by rw [hb, cnd_true]; exact h hb
theorem Ok.asmb {b : Bool} {x : M α} {y z : Option α} (h : b = true → Ok x y) : Ok (asmM b x) (bif b then y else z) := Ok.asm' fun hb => by rw [hb, cond_true]; exact h hb
/-- A plain condition. -/
def ifM (b : Bool) (x : M α) : M α := fun p => cnd b (x p) none
theorem Ok.ifc {b : Bool} {x : M α} {y z : Option α} (h : b = true → Ok x y) : Ok (ifM b x) (cnd b y z) := Ok.cnds fun hb => by rw [hb, cnd_true]; exact h hb
theorem Ok.if' {b : Bool} {x : M α} {y : Option α} (h : b = true → Ok x y) : Ok (ifM b x) y := Ok.cnds h
/-- Two ways, plainly. -/
def eithM (b : Bool) (x y : M α) : M α := fun p => cnd b (x p) (y p)
theorem Ok.eith {b : Bool} {x y : M α} {z : Option α} (h : b = true → Ok x z) (h' : b = false → Ok y z) : Ok (eithM b x y) z := by
  cases b
  · exact h' rfl
  · exact h rfl
theorem Ok.eithb {b : Bool} {x y : M α} {x' y' : Option α} (h : Ok x x') (h' : Ok y y') : Ok (eithM b x y) (bif b then x' else y') := by
  cases b
  · exact h'
  · exact h
theorem Ok.eithc {b : Bool} {x y : M α} {x' y' : Option α} (h : Ok x x') (h' : Ok y y') : Ok (eithM b x y) (cnd b x' y') := by
  cases b
  · exact h'
  · exact h
/-- A decision on a condition. -/
def decM (b : Bool) (f : Bool → M α) : M α := takeM (fun p => cnd b (f true p) (f false p)) fun x => preM (b = x) (f x)
theorem Ok.dec {b : Bool} {f : Bool → M α} {y : Option α} (h : ∀ x, b = x → Ok (f x) y) : Ok (decM b f) y := Ok.take (fun p cs es a q e hc hs => by
  cases b
  · exact h false rfl p _ _ _ _ e hc hs
  · exact h true rfl p _ _ _ _ e hc hs) fun x => Ok.pre fun hx => h x hx
end
/-- An own variable or row. -/
def withBlk {α : Type} (s : St) (k g : Nat) (f : Blk → M α) : M α := match s.hp.filter (fun b => b.k == k) with
  | [b] => sameM b.g g (f b)
  | _ => noM
theorem find_filter {s : St} {k g : Nat} {b : Blk} (h : s.hp.filter (fun b => b.k == k) = [b]) (hg : b.g = g) : s.blk k g = some b := by
  unfold St.blk
  rw [show s.hp.find? (fun b => b.k == k && b.g == g) = (s.hp.filter fun b => b.k == k).find? (fun b => b.g == g) by rw [List.find?_filter]; congr 1; funext b; simp; rfl, h]
  simp [hg]
theorem Ok.blk {α : Type} {s : St} {k g : Nat} {f : Blk → M α} {h : Blk → Option α} (hk : ∀ b, s.hp.filter (fun b => b.k == k) = [b] → b.g = g → Ok (f b) (h b)) : Ok (withBlk s k g f) ((s.blk k g).bind h) := by
  unfold withBlk
  split
  · rename_i b hb
    refine Ok.same fun hg => ?_
    rw [find_filter hb hg, Option.bind_some]
    exact hk b hb hg
  · exact Ok.no _
def setElsK (s : St) (k : Nat) (els : List AV) : St := { s with hp := s.hp.map fun b => bif b.k == k then { b with els } else b }
def frzK (s : St) (k : Nat) : St := { s with hp := s.hp.map fun b => bif b.k == k then { b with fz := true } else b }
theorem only_k {s : St} {k g : Nat} {b : Blk} (h : s.hp.filter (fun b => b.k == k) = [b]) (hg : b.g = g) : ∀ c ∈ s.hp, (c.k == k) = (c.k == k && c.g == g) := fun c hc => by
  cases hk : c.k == k with
  | false => rfl
  | true =>
    have : c ∈ s.hp.filter (fun b => b.k == k) := List.mem_filter.2 ⟨hc, hk⟩
    rw [h] at this
    simp only [List.mem_singleton] at this
    subst this
    simp [hg]
theorem setEls_K {s : St} {k g : Nat} {b : Blk} {els : List AV} (h : s.hp.filter (fun b => b.k == k) = [b]) (hg : b.g = g) : s.setEls k g els = setElsK s k els := by
  unfold St.setEls setElsK
  congr 1
  exact List.map_congr_left fun c hc => by rw [← only_k h hg c hc]
def renK (s : St) (k : Nat) (els : List AV) : St := { s with nx := bump k s.nx, hp := s.hp.map fun b => bif b.k == k then { b with g := s.nw k, els } else b }
theorem ren_K {s : St} {k g : Nat} {b : Blk} {els : List AV} (h : s.hp.filter (fun b => b.k == k) = [b]) (hg : b.g = g) : s.ren k g els = renK s k els := by
  unfold St.ren renK
  congr 1
  exact List.map_congr_left fun c hc => by rw [← only_k h hg c hc]
theorem frz_K {s : St} {k g : Nat} {b : Blk} (h : s.hp.filter (fun b => b.k == k) = [b]) (hg : b.g = g) : s.frz k g = frzK s k := by
  unfold St.frz frzK
  congr 1
  exact List.map_congr_left fun c hc => by rw [← only_k h hg c hc]
def K.conf : K → AV → Bool
  | .int k, .int k' _ => k' == k
  | .bool, .bool _ => true
  | .str, .str _ => true
  | .sl n, .sl _ n' _ .no => n' == n
  | .any, _ => true
  | _, _ => false
def AV.elsOf : AV → List AV
  | .sl _ _ els _ => els
  | _ => []
def AV.nilOf : AV → Bool
  | .sl nil _ _ _ => nil
  | _ => false
def AV.strOf : AV → List UInt8
  | .str l => l
  | _ => []
def AV.intOf : AV → Int
  | .int _ n => n
  | _ => 0
def AV.boolOf : AV → Bool
  | .bool b => b
  | _ => false
/-- A value as its kind shows it. -/
def K.view : K → AV → AV
  | .int k, e => .int k e.intOf
  | .bool, e => .bool e.boolOf
  | .str, e => .str e.strOf
  | .sl n, e => .sl e.nilOf n e.elsOf .no
  | .any, e => e
theorem K.view_eq {k : K} {e : AV} (h : k.conf e = true) : k.view e = e := by
  cases k <;> cases e <;> first | rfl | (cases h; done) | skip
  · simp only [K.conf, beq_iff_eq] at h; subst h; rfl
  · rename_i n nil n' els tok
    cases tok <;> first | (cases h; done) | skip
    simp only [K.conf, beq_iff_eq] at h; subst h; rfl
def confL : List K → List AV → Bool
  | [], [] => true
  | k :: ks, x :: l => k.conf x && confL ks l
  | _, _ => false
/-- A cell of an element. -/
def AV.cell (e : AV) (q : Nat) : AV := e.cells.getD q .undef
def viewL : List K → Nat → AV → List AV
  | [], _, _ => []
  | k :: ks, q, e => k.view (e.cell q) :: viewL ks (q + 1) e
theorem viewL_eq : ∀ (ks : List K) (q : Nat) (e : AV), confL ks (e.cells.drop q) = true → viewL ks q e = e.cells.drop q := by
  intro ks
  induction ks with
  | nil =>
    intro q e h
    cases hd : e.cells.drop q with
    | nil => rfl
    | cons x l => rw [hd] at h; cases h
  | cons k ks ih =>
    intro q e h
    cases hd : e.cells.drop q with
    | nil => rw [hd] at h; cases h
    | cons x l =>
      rw [hd] at h
      simp only [confL, Bool.and_eq_true] at h
      have hx : e.cells[q]? = some x := by
        have : (e.cells.drop q)[0]? = some x := by rw [hd]; rfl
        rw [List.getElem?_drop, Nat.add_zero] at this; exact this
      have hl : e.cells.drop (q + 1) = l := by rw [← List.drop_drop, hd]; rfl
      simp only [viewL, AV.cell]
      rw [List.getD_eq_getElem?_getD, hx, Option.getD_some, K.view_eq h.1, ih (q + 1) e (by rw [hl]; exact h.2), hl]
/-- An element as its type's cells show it. -/
def shape (ag : Bool) (ks : List K) (e : AV) : AV := bif ag then .agg (viewL ks 0 e) else (match ks with | [k] => k.view e | _ => e)
def shapeOk (ag : Bool) (ks : List K) (e : AV) : Bool := bif ag then (match e with | .agg cs => confL ks cs | _ => false) else (match ks with | [k] => k.conf e | _ => true)
theorem shape_eq {ag : Bool} {ks : List K} {e : AV} (h : shapeOk ag ks e = true) : shape ag ks e = e := by
  unfold shape shapeOk at *
  cases ag with
  | true =>
    rw [cond_true] at h ⊢
    cases e <;> first | (cases h; done) | skip
    rename_i cs
    rw [viewL_eq ks 0 (.agg cs) h]; rfl
  | false =>
    rw [cond_false] at h ⊢
    split
    · exact K.view_eq h
    · rfl
/-- The bytes of cells. -/
def bytesD (els : List AV) : List UInt8 := els.map fun e => UInt8.ofNat e.intOf.toNat
def isBytes (els : List AV) : Bool := els.all (K.conf (.int .u8))
theorem bytes_D : ∀ {els : List AV}, isBytes els = true → bytes els = some (bytesD els) := by
  intro els
  induction els with
  | nil => intro _; rfl
  | cons e els ih =>
    intro h
    simp only [isBytes, List.all_cons, Bool.and_eq_true] at h
    have he := K.view_eq h.1
    have hr := ih (by simpa [isBytes] using h.2)
    rw [← he]
    simp only [K.view, bytes, hr, Option.map_some, bytesD, List.map_cons, AV.intOf]
section
variable (P : Program)
def isHs : AV → Bool
  | .hs _ _ _ _ _ _ => true
  | _ => false
/-- An element as its type's cells show it, under the condition that it has them; what leads to a row of our own as it is. -/
def shapeM (ag : Bool) (t : TypeId) (e : AV) : M AV := match kinds P 8 t with
  | some ks => takeM (fun p => cnd (shapeOk ag ks e) (ret (shape ag ks e) p) (cnd (isHs e) (ret e p) none)) fun _ => preM (shapeOk ag ks e = true) (ret (shape ag ks e))
  | none => ret e
def elM (ag : Bool) (t : TypeId) (els : List AV) (i : Nat) : M AV := shapeM P ag t (els.getD i .undef)
/-- Bounds of a part. -/
def boundsM (len : Nat) (lo hi : Option AV) : M (Nat × Nat) :=
  bindM (liftM (idx lo 0)) fun l => bindM (liftM (idx hi len)) fun h => asmM (decide (0 ≤ l ∧ l ≤ h ∧ h ≤ len)) (ret (l.toNat, h.toNat))
def cutM (tok : Tok) (l h len : Nat) : M Tok := match tok with
  | .no => ret .no
  | .full => decM (h == len) fun x => ret (bif x then .full else .no)
  | .own k g => decM (h == len) fun x => eithM x (decM (l == 0) fun y => ret (bif y then .own k g else .no)) (ret .no)
def slcZ (nil : Bool) (n : Nat) (els : List AV) (tok : Tok) (mx : Option AV) (r : Nat × Nat) : M AV := match mx with
  | none => mapM' (fun tk => .sl nil n (sub r.1 r.2 els) tk) (cutM tok r.1 r.2 els.length)
  | some m => bindM (liftM m.asI) fun m => asmM (decide (m = r.2)) (ret (.sl nil n (sub r.1 r.2 els) .full))
def slcM (t : TypeId) (x : AV) (lo hi mx : Option AV) : M AV := match x with
  | .sl nil n els tok => bindM (liftM (eli P t)) fun y => bindM (boundsM els.length lo hi) fun r => eithM (y.2 == n) (slcZ nil n els tok mx r) (ifM els.isEmpty (slcZ nil n els tok mx r))
  | .hs k g n o len full => bindM (liftM (eli P t)) fun y => ifM (y.2 == n) (bindM (boundsM len lo hi) fun r => match mx with
    | none => decM (r.1 == r.2) fun x => eithM x (decM (r.2 == 0) fun y => ret (bif y then .hs k g n o 0 (full && 0 == len) else .sl false 0 [] .no)) (ret (.hs k g n (o + r.1) (r.2 - r.1) (full && r.2 == len)))
    | some m => bindM (liftM m.asI) fun m => asmM (decide (m = r.2)) (decM (r.1 == r.2) fun x => ret (bif x then .sl false 0 [] .full else .hs k g n (o + r.1) (r.2 - r.1) true)))
  | .str a => match mx with
    | none => ifM (isStr P t) (mapM' (fun r => .str (sub r.1 r.2 a)) (boundsM a.length lo hi))
    | some _ => noM
  | _ => noM
def binM (op : BinOp) (t : TypeId) (x y : AV) : M AV := match x, y with
  | .int k a, .int k' b => match op with
    | .quo => ifM (k == k') (decM (decide (b = 0)) fun z => eithM z noM (ret (.int k (k.wrap (a.tdiv b)))))
    | .rem => ifM (k == k') (decM (decide (b = 0)) fun z => eithM z noM (ret (.int k (a.tmod b))))
    | .shl => decM (decide (b < 0)) fun z => eithM z noM (ret (.int k (k.wrap (a * 2 ^ min b.toNat k.bits))))
    | .shr => decM (decide (b < 0)) fun z => eithM z noM (ret (.int k (a.fdiv (2 ^ min b.toNat k.bits))))
    | _ => liftM (bin P op t x y)
  | .str a, .str b => match op with
    | .add => asmM (decide (a.length + b.length < 2 ^ 62)) (ret (.str (a ++ b)))
    | _ => liftM (bin P op t x y)
  | _, _ => liftM (bin P op t x y)
def convM (src dst : TypeId) (x : AV) : M AV := match convK P src dst, x with
  | .rune, .int _ n => asmM (decide (0 ≤ n ∧ n < 128)) (ret (.str [UInt8.ofNat n.toNat]))
  | .toStr, .sl _ _ els _ => asmM (isBytes els) (ret (.str (bytesD els)))
  | _, _ => liftM (conv P src dst x)
/-- An operation that does not look at the own state, under conditions. -/
def oP (ρ : Operand → AV) (op : Op) : M AV := match op with
  | .indexAddr t x j => match ρ j, ρ x with
    | .int _ j, .sl _ n els _ => bindM (liftM (eli P t)) fun y => asmM ((y.2 == n) && decide (0 ≤ j ∧ j < els.length)) (mapM' .ep (elM P y.1 (elT P t) els j.toNat))
    | .int _ j, .hs k g n lo len _ => bindM (liftM (eli P t)) fun y => asmM ((y.2 == n) && decide (0 ≤ j ∧ j < len)) (ret (.pt k g (lo + j.toNat) 0))
    | .int _ j, .pt k g i o => bindM (liftM (ari P t)) fun y => asmM (decide (0 ≤ j ∧ j < y.1)) (ret (.pt k g i (o + j.toNat * y.2.2)))
    | _, _ => liftM (evP P ρ op)
  | .index t x j => match ρ j, ρ x with
    | .int _ j, .str a => ifM (isStr P t) (asmM (decide (0 ≤ j ∧ j < a.length)) (ret (.int .u8 (a.getD j.toNat 0).toNat)))
    | _, _ => liftM (evP P ρ op)
  | .slice t x lo hi mx => eithM (mx.isNone || hi.isSome) (slcM P t (ρ x) (lo.map ρ) (hi.map ρ) (mx.map ρ)) noM
  | .binOp op t x y _ => binM P op t (ρ x) (ρ y)
  | .convert a b x => convM P a b (ρ x)
  | _ => liftM (evP P ρ op)
variable {P : Program}
theorem shapeM_ok {ag : Bool} {t : TypeId} {e : AV} : Ok (shapeM P ag t e) (some e) := by
  unfold shapeM
  split
  · refine Ok.take (fun p cs es a q h hc hs => ?_) fun _ => Ok.pre fun h => by rw [shape_eq h]; exact Ok.ret _
    cases hk : shapeOk ag _ e with
    | true => rw [hk] at h; rw [shape_eq hk] at h; exact Ok.ret e p _ _ _ _ h hc hs
    | false =>
      rw [hk] at h
      obtain ⟨_, h2⟩ := cnd_some (c := isHs e) (x := ret e p) (by simpa only [cnd_false] using h)
      exact Ok.ret e p _ _ _ _ h2 hc hs
  · exact Ok.ret _
theorem elM_ok {ag : Bool} {t : TypeId} {els : List AV} {i : Nat} (h : i < els.length) : Ok (elM P ag t els i) els[i]? := by
  unfold elM
  rw [List.getElem?_eq_getElem h, show els.getD i AV.undef = els[i] by rw [List.getD_eq_getElem?_getD, List.getElem?_eq_getElem h]; rfl]
  exact shapeM_ok
theorem boundsM_ok {len : Nat} {lo hi : Option AV} : Ok (boundsM len lo hi) (bounds len lo hi) := by
  unfold boundsM bounds
  exact Ok.bind (.lift _) fun l => Ok.bind (.lift _) fun h => Ok.asm fun _ => Ok.ret _
theorem cutM_ok {tok : Tok} {l h len : Nat} : Ok (cutM tok l h len) (some (tok.cut l h len)) := by
  unfold cutM
  split
  · rw [show Tok.cut .no l h len = .no by unfold Tok.cut; cases h == len <;> rfl]; exact Ok.ret _
  · refine Ok.dec fun x hx => ?_
    rw [show Tok.cut .full l h len = bif x then .full else .no by unfold Tok.cut; rw [hx]]; exact Ok.ret _
  · rename_i k g
    refine Ok.dec fun x hx => Ok.eith (fun h1 => Ok.dec fun y hy => ?_) fun h1 => ?_
    · rw [show Tok.cut (.own k g) l h len = bif y then .own k g else .no by unfold Tok.cut; rw [hx, h1, ← hy]; rfl]; exact Ok.ret _
    · rw [show Tok.cut (.own k g) l h len = .no by unfold Tok.cut; rw [hx, h1]; rfl]; exact Ok.ret _
theorem Ok.mapret {α β : Type} {x : M α} {y : α} {f : α → β} (h : Ok x (some y)) : Ok (mapM' f x) (some (f y)) := Ok.map (f := f) h
theorem slcM_ok {t : TypeId} {x : AV} {lo hi mx : Option AV} : Ok (slcM P t x lo hi mx) (slc P t x lo hi mx) := by
  unfold slcM
  split
  · rename_i nil n els tok
    unfold slc
    refine Ok.bind (.lift _) fun y => Ok.bind boundsM_ok fun r => ?_
    have key : (els.isEmpty || y.2 == n) = true → Ok (slcZ nil n els tok mx r) (slcK y.2 nil n els tok mx r) := fun h => by
      unfold slcK slcZ
      rw [h, cnd_true]
      split
      · exact Ok.mapret (f := fun tk => AV.sl nil n (Ev.sub r.1 r.2 els) tk) cutM_ok
      · exact Ok.bind (.lift _) fun m => Ok.asm fun _ => Ok.ret _
    exact Ok.eith (fun h => key (by rw [h, Bool.or_true])) fun _ => Ok.if' fun h => key (by rw [h, Bool.true_or])
  · rename_i k g n o len full
    unfold slc
    refine Ok.bind (.lift _) fun y => Ok.ifc fun h => Ok.bind boundsM_ok fun r => ?_
    unfold hsK
    split
    · refine Ok.dec fun x hx => ?_
      rw [hx]
      refine Ok.eith (fun h => ?_) (fun h => ?_)
      · rw [h, cond_true]
        refine Ok.dec fun y hy => ?_
        rw [hy]; exact Ok.ret _
      · rw [h, cond_false]; exact Ok.ret _
    · exact Ok.bind (.lift _) fun m => Ok.asm fun _ => Ok.dec fun x hx => by rw [hx]; exact Ok.ret _
  · rename_i a
    split
    · simp only [slc]
      refine Ok.if' fun h => ?_
      rw [h, cond_true]
      exact Ok.map (f := fun r : Nat × Nat => AV.str (Ev.sub r.1 r.2 a)) boundsM_ok
    · exact Ok.no _
  · exact Ok.no _
theorem binM_ok {op : BinOp} {t : TypeId} {x y : AV} : Ok (binM P op t x y) (bin P op t x y) := by
  unfold binM
  split
  · rename_i k a k' b
    split
    · refine Ok.if' fun h => Ok.dec fun z hz => Ok.eith (fun _ => Ok.no _) fun h1 => ?_
      simp only [bin, isSh, cond_false, h, cond_true, iBin, hz, h1, cnd_false]; exact Ok.ret _
    · refine Ok.if' fun h => Ok.dec fun z hz => Ok.eith (fun _ => Ok.no _) fun h1 => ?_
      simp only [bin, isSh, cond_false, h, cond_true, iBin, hz, h1, cnd_false]; exact Ok.ret _
    · refine Ok.dec fun z hz => Ok.eith (fun _ => Ok.no _) fun h1 => ?_
      simp only [bin, isSh, cond_true, iShift, hz, h1, cnd_false]; exact Ok.ret _
    · refine Ok.dec fun z hz => Ok.eith (fun _ => Ok.no _) fun h1 => ?_
      simp only [bin, isSh, cond_true, iShift, hz, h1, cnd_false]; exact Ok.ret _
    · exact .lift _
  · split
    · simp only [bin, sBin]
      exact Ok.asm fun _ => Ok.ret _
    · exact .lift _
  · exact .lift _
theorem convM_ok {src dst : TypeId} {x : AV} : Ok (convM P src dst x) (conv P src dst x) := by
  unfold convM
  split
  · rename_i k n h1
    simp only [conv, h1]
    exact Ok.asm fun _ => Ok.ret _
  · rename_i nl n els tok h1
    simp only [conv, h1]
    refine Ok.asm' fun h => ?_
    rw [bytes_D h]; exact Ok.ret _
  · exact .lift _
theorem oP_ok {ρ : Operand → AV} {op : Op} : Ok (oP P ρ op) (evP P ρ op) := by
  unfold oP
  split
  · split
    · rename_i t x j k jn nl n els tok h1 h2
      simp only [evP, h1, h2, AV.asI, Option.bind_some]
      refine Ok.bind (.lift _) fun y => Ok.asm fun h => Ok.map (elM_ok ?_)
      have h := Bool.and_eq_true_iff.1 h
      have := of_decide_eq_true h.2
      omega
    · rename_i t x j k jn kk g n lo len full h1 h2
      simp only [evP, h1, h2, AV.asI, Option.bind_some]
      exact Ok.bind (.lift _) fun y => Ok.asm fun _ => Ok.ret _
    · rename_i t x j k jn kk g i o h1 h2
      simp only [evP, h1, h2, AV.asI, Option.bind_some]
      exact Ok.bind (.lift _) fun y => Ok.asm fun _ => Ok.ret _
    · exact .lift _
  · split
    · rename_i t x j k jn a h1 h2
      simp only [evP, h1, h2, AV.asI, Option.bind_some]
      refine Ok.ifc fun _ => Ok.asm fun hd => ?_
      have hd := of_decide_eq_true hd
      have hi : jn.toNat < a.length := by omega
      rw [List.getElem?_eq_getElem hi, Option.map_some]
      rw [show a.getD jn.toNat 0 = a[jn.toNat] by rw [List.getD_eq_getElem?_getD, List.getElem?_eq_getElem hi]; rfl]
      exact Ok.ret _
    · exact .lift _
  · simp only [evP]
    exact Ok.eithb slcM_ok (Ok.no _)
  · simp only [evP]; exact binM_ok
  · simp only [evP]; exact convM_ok
  · exact .lift _
end
section
variable (P : Program)
/-- Elements of n cells. -/
def elemsM (n : Nat) (y : AV) : M (List AV) := match y with
  | .sl _ n' els _ => eithM (n' == n) (ret els) (ifM els.isEmpty (ret els))
  | _ => liftM (elemsOf n y)
def tokM (s : St) (k g len : Nat) (ty : TypeId) (x : M (AV × Acc × St)) : M (AV × Acc × St) := match s.lv.filter (fun e => e.1 == k) with
  | [e] => ifM (e.2.2.2 == ty) (sameM e.2.1 g (sameM e.2.2.1 len x))
  | _ => noM
def appTM (mu : Bool) (ty : TypeId) (n n' k : Nat) (els ds : List AV) (tok : Tok) (s : St) : M (AV × Acc × St) := match tok with
  | .own k' g => ifM (n' == n) (tokM s k' g els.length ty (ret (.sl false n (els ++ ds) (.own k' g), .tk k', { s with lv := setTk k' g (els ++ ds).length ty s.lv })))
  | _ => liftM (appT mu ty n n' k els ds tok s)
def appM' (mu : Bool) (ty : TypeId) (n bytes k : Nat) (nil : Bool) (n' : Nat) (els ds : List AV) (tok : Tok) (s : St) : M (AV × Acc × St) :=
  asmM (decide ((els.length + ds.length + 1) * (bytes + 1) ≤ 2 ^ 36)) (eithM (isFree tok) (decM ds.isEmpty fun z => eithM z (ret (.sl nil n' els tok, .no, s)) (appTM mu ty n n' k els ds tok s)) (appTM mu ty n n' k els ds tok s))
def appHM (ty : TypeId) (n k g lo len : Nat) (ds : List AV) (s : St) : M (AV × Acc × St) := withBlk s k g fun b => asmM (decide (lo = 0 ∧ len ≤ b.els.length)) (ifM (b.n == n && (b.ty == ty && (!b.va && !b.fz)))
  (ret (.hs k (s.nw k) n 0 (len + ds.length) false, .nw k, renK s k (b.els.take len ++ ds))))
def appM (mu : Bool) (ty : TypeId) (n bytes k : Nat) (x y : AV) (s : St) : M (AV × Acc × St) := match x with
  | .sl nil n' els tok => bindM (elemsM n y) fun ds => eithM (n' == n) (appM' mu ty n bytes k nil n' els ds tok s) (ifM els.isEmpty (appM' mu ty n bytes k nil n' els ds tok s))
  | .hs k' g n' lo len full => bindM (elemsM n y) fun ds => ifM (n' == n) (asmM (decide ((len + ds.length + 1) * (bytes + 1) ≤ 2 ^ 36)) (decM ds.isEmpty fun z => eithM z (ret (.hs k' g n' lo len full, .no, s)) (appHM ty n k' g lo len ds s)))
  | _ => noM
def appYM (mu : Bool) (ty : TypeId) (n bytes k : Nat) (x y : AV) (s : St) : M (AV × Acc × St) := match y with
  | .hs k' g n' lo len _ => withBlk s k' g fun b => asmM (decide (lo + len ≤ b.els.length)) (ifM (n' == n && b.n == n) (mapM' (fun r : AV × Acc × St => (r.1, Acc.all, r.2.2)) (appM mu ty n bytes k x (.sl false n ((b.els.drop lo).take len) .no) s)))
  | y => appM mu ty n bytes k x y s
def appZM (mu : Bool) (t : TypeId) (n bs k : Nat) (x y : AV) (s : St) : M (AV × Acc × St) := match y with
  | .int _ m => asmM (decide (0 ≤ m ∧ m.toNat * (bs + 1) ≤ 2 ^ 36)) (bindM (liftM (zerE P t)) fun z => appM mu (elT P t) n bs k x (.sl false n (List.replicate m.toNat z) .no) s)
  | _ => noM
def appNM (mu : Bool) (t t2 : TypeId) (n bs k : Nat) (x y : AV) (s : St) : M (AV × Acc × St) :=
  eithM (notInt P t2) (appYM mu (elT P t) n bs k x y s) (eithM (isIntT P t2) (appZM P mu t n bs k x y s) noM)
def appCM (mu : Bool) (k : Nat) (args : List AV) (ts : List TypeId) (s : St) : M (AV × Acc × St) := match args, ts with
  | [x, y], [t, t2] => bindM (liftM (eli P t)) fun y1 => bindM (liftM (bytesOf P t)) fun bs => eithM (y1.2 == 0 || !zOk P t y1.2) noM (appNM P mu t t2 y1.2 bs k x y s)
  | _, _ => noM
/-- An element of an own variable or row. -/
def elO (b : Blk) (i : Nat) : M AV := eithM b.va (liftM (b.els[i]?)) (bindM (liftM (tyi P b.ty)) fun y => asmM (decide (i < b.els.length)) (elM P y.1 b.ty b.els i))
def slcArrM (k o : Nat) (b : Blk) (i : Nat) (s : St) (y : Nat × Bool × Nat) (r : Nat × Nat) : M (AV × Acc × St) :=
  liftM ((b.els[i]?).bind fun e => (arrEls y.2.1 y.2.2 o e.cells r.1 (r.2 - r.1)).map fun els => (.sl false y.2.2 els (bif r.2 == y.1 then .full else .no), .wr k, frzK s k))
/-- An operation on the own state, under conditions. -/
def oE (mu : Bool) (d : Option Tmp) (ρ : Operand → AV) (s : St) (op : Op) : M (AV × Acc × St) := match op with
  | .load t x => match ρ x with
    | .pt k g i o => withBlk s k g fun b => bindM (elO P b i) fun e => bindM (liftM (tyi P t)) fun y => mapM' (fun a => (a, .rd k, s)) (liftM (prt y.1 o y.2 e.cells))
    | _ => noM
  | .store t x y => match ρ x with
    | .pt k g i o => withBlk s k g fun b => bindM (elO P b i) fun e => bindM (liftM (tyi P t)) fun z =>
      ifM ((ρ y).row z.2 && Nat.ble (o + z.2) e.cells.length && !b.fz && !(z.2 == 0)) (ret (.undef, .wr k, setElsK s k (b.els.set i (upd o (ρ y) e))))
    | _ => noM
  | .slice t x lo hi mx => match ρ x with
    | .pt k g i o => bindM (liftM (ari P t)) fun y => withBlk s k g fun b => eithM mx.isNone (bindM (boundsM y.1 (lo.map ρ) (hi.map ρ)) fun r => slcArrM k o b i s y r) noM
    | _ => noM
  | .makeSlice t l c => match ρ l, ρ c with
    | .int _ l, .int _ c => bindM (liftM (eli P t)) fun y => bindM (liftM (bytesOf P t)) fun bs => bindM (liftM (zerE P t)) fun z =>
      ifM (z.row y.2 && !(y.2 == 0)) (asmM (decide (0 ≤ l ∧ l ≤ c ∧ c.toNat * (bs + 1) ≤ 2 ^ 40))
          (eithM mu (ret (.hs (s.kb + d.getD 0) (s.nw (s.kb + d.getD 0)) y.2 0 l.toNat (decide (c = l)), .nw (s.kb + d.getD 0), newBlk s (s.kb + d.getD 0) y.2 (List.replicate l.toNat z) (elT P t) false))
            (ret (.sl false y.2 (List.replicate l.toNat z) (.own (s.kb + d.getD 0) (s.nw (s.kb + d.getD 0))), .tk (s.kb + d.getD 0), newTk s (s.kb + d.getD 0) l.toNat (elT P t)))))
    | _, _ => noM
  | .call c => match c.callee with
    | .builtin .append => appCM P mu (s.kb + d.getD 0) (c.args.toList.map ρ) c.argTypes.toList s
    | _ => noM
  | _ => liftM (evE P mu d ρ s op)
variable {P : Program}
theorem elemsM_ok {n : Nat} {y : AV} : Ok (elemsM n y) (elemsOf n y) := by
  unfold elemsM
  split
  · rename_i nl n' els tok
    unfold elemsOf
    refine Ok.eith (fun h => ?_) fun h => Ok.if' fun h' => ?_
    · simp only [h, Bool.or_true, cond_true]; exact Ok.ret _
    · simp only [h', Bool.true_or, cond_true]; exact Ok.ret _
  · exact .lift _
theorem hasTk_filter {k g len : Nat} {ty : TypeId} {l : List (Nat × Nat × Nat × TypeId)} {e : Nat × Nat × Nat × TypeId} (h : l.filter (fun e => e.1 == k) = [e]) (h1 : (e.2.2.2 == ty) = true) (h2 : e.2.1 = g) (h3 : e.2.2.1 = len) : hasTk k g len ty l = true := by
  have he : e ∈ l.filter (fun e => e.1 == k) := by rw [h]; exact List.mem_singleton.2 rfl
  obtain ⟨hm, hk⟩ := List.mem_filter.1 he
  unfold hasTk
  refine List.any_eq_true.2 ⟨e, hm, ?_⟩
  rw [hk, h1, h2, h3]
  simp
theorem appTM_ok {mu : Bool} {ty : TypeId} {n n' k : Nat} {els ds : List AV} {tok : Tok} {s : St} : Ok (appTM mu ty n n' k els ds tok s) (appT mu ty n n' k els ds tok s) := by
  unfold appTM
  split
  · rename_i k' g
    refine Ok.if' fun h => ?_
    unfold tokM
    split
    · rename_i e he
      refine Ok.if' fun h1 => Ok.same fun h2 => Ok.same fun h3 => ?_
      simp only [appT, hasTk_filter he h1 h2 h3, h, Bool.and_true, cnd_true]
      exact Ok.ret _
    · exact Ok.no _
  · exact .lift _
theorem appM'_ok {mu : Bool} {ty : TypeId} {n bytes k : Nat} {nil : Bool} {n' : Nat} {els ds : List AV} {tok : Tok} {s : St} (h : (els.isEmpty || n' == n) = true) :
    Ok (appM' mu ty n bytes k nil n' els ds tok s) (cnd (decide ((els.length + ds.length + 1) * (bytes + 1) ≤ 2 ^ 36) && (els.isEmpty || n' == n)) (cnd (ds.isEmpty && isFree tok) (some (.sl nil n' els tok, .no, s)) (appT mu ty n n' k els ds tok s)) none) := by
  unfold appM'
  rw [h, Bool.and_true]
  refine Ok.asm fun _ => Ok.eith (fun hf => Ok.dec fun z hz => ?_) fun hf => ?_
  · rw [hz, hf, Bool.and_true]
    exact Ok.eithc (Ok.ret _) appTM_ok
  · rw [hf, Bool.and_false, cnd_false]
    exact appTM_ok
theorem appHM_ok {ty : TypeId} {n k g lo len : Nat} {ds : List AV} {s : St} : Ok (appHM ty n k g lo len ds s) (appH ty n k g lo len ds s) := by
  unfold appHM appH
  refine Ok.blk fun b hb hg => Ok.asm fun _ => Ok.if' fun h => ?_
  rw [h, cond_true, ren_K hb hg]; exact Ok.ret _
theorem appM_ok {mu : Bool} {ty : TypeId} {n bytes k : Nat} {x y : AV} {s : St} : Ok (appM mu ty n bytes k x y s) (app mu ty n bytes k x y s) := by
  unfold appM app
  split
  · exact Ok.bind elemsM_ok fun ds => Ok.eith (fun h => appM'_ok (by rw [h, Bool.or_true])) fun _ => Ok.if' fun h => appM'_ok (by rw [h, Bool.true_or])
  · refine Ok.bind elemsM_ok fun ds => Ok.if' fun h => ?_
    rw [h, Bool.and_true]
    refine Ok.asm fun _ => Ok.dec fun z hz => ?_
    rw [hz]
    exact Ok.eithc (Ok.ret _) appHM_ok
  · exact .no _
theorem appYM_ok {mu : Bool} {ty : TypeId} {n bytes k : Nat} {x y : AV} {s : St} : Ok (appYM mu ty n bytes k x y s) (appY mu ty n bytes k x y s) := by
  unfold appYM appY
  split
  · refine Ok.blk fun b _ _ => Ok.asm fun _ => Ok.if' fun h => ?_
    rw [h, cond_true]
    exact Ok.map (f := fun r : AV × Acc × St => (r.1, Acc.all, r.2.2)) appM_ok
  · rename_i hy
    split
    · exact (hy _ _ _ _ _ _ rfl).elim
    · exact appM_ok
theorem appNM_ok {mu : Bool} {t t2 : TypeId} {n bytes k : Nat} {x y : AV} {s : St} : Ok (appNM P mu t t2 n bytes k x y s) (appN P mu t t2 n bytes k x y s) := by
  unfold appNM appN
  refine Ok.eithb appYM_ok (Ok.eithb ?_ (.no _))
  unfold appZM appZ
  split
  · exact Ok.asm fun _ => Ok.bind (.lift _) fun z => appM_ok
  · exact .no _
theorem appCM_ok {mu : Bool} {k : Nat} {args : List AV} {ts : List TypeId} {s : St} : Ok (appCM P mu k args ts s) (appC P mu k args ts s) := by
  unfold appCM appC
  split
  · exact Ok.bind (.lift _) fun y1 => Ok.bind (.lift _) fun bs => Ok.eithb (.no _) appNM_ok
  · exact .no _
theorem elO_ok {b : Blk} {i : Nat} : Ok (elO P b i) b.els[i]? := by
  unfold elO
  exact Ok.eith (fun _ => .lift _) fun _ => Ok.bindl fun y => Ok.asm' fun h => elM_ok (of_decide_eq_true h)
theorem oE_ok {mu : Bool} {d : Option Tmp} {ρ : Operand → AV} {s : St} {op : Op} : Ok (oE P mu d ρ s op) (evE P mu d ρ s op) := by
  unfold oE
  split
  · split
    · rename_i t x k g i o h1
      simp only [evE, h1]
      exact Ok.blk fun b _ _ => Ok.bind elO_ok fun e => Ok.bind (.lift _) fun y => Ok.map (f := fun a => (a, Acc.rd k, s)) (.lift _)
    · exact .no _
  · split
    · rename_i t x y k g i o h1
      simp only [evE, h1]
      refine Ok.blk fun b hb hg => Ok.bind elO_ok fun e => Ok.bind (.lift _) fun z => Ok.if' fun h => ?_
      rw [h, cond_true, setEls_K hb hg]
      exact Ok.ret _
    · exact .no _
  · split
    · rename_i t x lo hi mx k g i o h1
      simp only [evE, h1]
      refine Ok.bind (.lift _) fun y => Ok.blk fun b hb hg => Ok.eithb (Ok.bind boundsM_ok fun r => ?_) (.no _)
      unfold slcArr
      rw [frz_K hb hg]
      exact .lift _
    · exact .no _
  · split
    · rename_i t l c kl ln kc cn h1 h2
      simp only [evE, h1, h2]
      refine Ok.bind (.lift _) fun y => Ok.bind (.lift _) fun bs => Ok.bind (.lift _) fun z => Ok.if' fun h => ?_
      rw [h, cond_true]
      exact Ok.asm fun _ => Ok.eithb (Ok.ret _) (Ok.ret _)
    · exact .no _
  · split
    · rename_i c hc
      simp only [evE, hc]
      exact appCM_ok
    · exact .no _
  · exact .lift _
end
end Go.Ev
