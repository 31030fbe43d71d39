/-
  THE PLAIN EVALUATOR, second form: what a call of the model's own code yields, without a world. Its definitions; no condition.
-/
import Derived.WalkKit
import Derived.ProofKit
namespace Go.Ev
open Go

/-- The right to append: the capacity is the length (full), the room behind is ours alone (own: of the chain begun at place k, number g), none. -/
inductive Tok where
  | full
  | own (k g : Nat)
  | no
  deriving DecidableEq, Inhabited

/-- A value, plainly. int, bool, str: integers, bools, strings. val: another of the model's own, with no address of ours in it. agg: its cells, flat. sl: a slice as the list of its elements, of n cells each. hs: a slice of a row of our own (place k, number g, n cells an element), from element lo on. ep: a pointer to what never changes. pt: into a variable or row of our own: element i, cell o. -/
inductive AV where
  | int (k : IntKind) (n : Int)
  | bool (x : Bool)
  | str (l : List UInt8)
  | val (x : Value)
  | agg (cs : List AV)
  | tup (cs : List AV)
  | sl (nil : Bool) (n : Nat) (els : List AV) (tok : Tok)
  | hs (k g n lo len : Nat) (full : Bool)
  | ep (x : AV)
  | pt (k g i o : Nat)
  | fn (f : Fn) (first captured : List AV)
  | ifc (t : TypeId) (x : AV)
  deriving Inhabited

/-- What no operation has written yet. -/
def AV.undef : AV := .tup []
def AV.of0 : Value → AV
  | .int k n => .int k n
  | .bool x => .bool x
  | .string s => .str s.data.toList
  | .slice none 0 0 => .sl true 0 [] .full
  | x => .val x
def AV.of1 : Value → AV
  | .agg cs => .agg (cs.toList.map AV.of0)
  | x => AV.of0 x
def AV.of : Value → AV
  | .tuple vs => .tup (vs.toList.map AV.of1)
  | x => AV.of1 x
def AV.cells : AV → List AV
  | .agg cs => cs
  | x => [x]
/-- May it stand in a cell? -/
def AV.isCell : AV → Bool
  | .agg _ | .tup _ => false
  | .val (.agg _) | .val (.tuple _) => false
  | _ => true
/-- A row of n cells. -/
def AV.row (n : Nat) (x : AV) : Bool := x.cells.length == n && x.cells.all AV.isCell
def AV.asI : AV → Option Int
  | .int _ n => some n
  | _ => none
def AV.asB : AV → Option Bool
  | .bool x => some x
  | _ => none
/-- What a guard asks. -/
def AV.gd (want : Bool) : AV → Option Bool
  | .bool b => some (b == want)
  | .tup [] => some false
  | _ => none
def AV.asAgg : AV → Option (List AV)
  | .agg cs => some cs
  | _ => none
def AV.asTup : AV → Option (List AV)
  | .tup cs => some cs
  | _ => none

mutual
/-- No address of the call's own in it, no right to append. -/
def AV.clean : AV → Bool
  | .int _ _ | .bool _ | .str _ | .val _ => true
  | .agg cs | .tup cs => AV.cleanL cs
  | .sl _ _ els t => (match t with | .own _ _ => false | _ => true) && AV.cleanL els
  | .hs .. => false
  | .ep x => AV.clean x
  | .pt .. => false
  | .fn _ first captured => AV.cleanL first && AV.cleanL captured
  | .ifc _ x => AV.clean x
def AV.cleanL : List AV → Bool
  | [] => true
  | x :: l => AV.clean x && AV.cleanL l
end

/-- A variable or a row of our own: begun at place k, number g, of elements of n cells. fz: it changes no more. -/
structure Blk where
  k : Nat
  g : Nat
  n : Nat
  els : List AV
  ty : TypeId
  va : Bool
  fz : Bool := false
  deriving Inhabited
/-- A call's own state. -/
structure St where
  tm : List AV
  kb : Nat
  hp : List Blk
  nx : Nat → Nat
  lv : List (Nat × Nat × Nat × TypeId)
  df : List (FuncId × List AV)
  deriving Inhabited
def St.at (s : St) : Operand → AV
  | .tmp t => s.tm.getD t .undef
  | .const v => .of v
  | .global g => .val (.pointer (some ⟨g, 0, none⟩))
  | .func f => .fn (.func f) [] []
def St.put (s : St) (dst : Option Tmp) (x : AV) : St :=
  match dst with
  | some d => { s with tm := s.tm.set d x }
  | none => s
def St.blk (s : St) (k g : Nat) : Option Blk := s.hp.find? fun b => b.k == k && b.g == g
def St.setEls (s : St) (k g : Nat) (els : List AV) : St := { s with hp := s.hp.map fun b => bif b.k == k && b.g == g then { b with els } else b }
/-- In the order of places; what stood at the place is given up. -/
def addBlk (b : Blk) : List Blk → List Blk
  | [] => [b]
  | c :: l => bif Nat.blt b.k c.k then b :: c :: l else bif c.k == b.k then b :: l else c :: addBlk b l
/-- Two numbers as one. -/
def pairN (k c : Nat) : Nat := (k + c) * (k + c + 1) / 2 + k
/-- The next number of a place. -/
def St.nw (s : St) (k : Nat) : Nat := pairN k (s.nx k)
def bump (k : Nat) (nx : Nat → Nat) : Nat → Nat := fun j => bif j == k then nx j + 1 else nx j
/-- A choice. -/
def cnd {α : Type} (c : Bool) (x y : α) : α := match c with | true => x | false => y
theorem cnd_true {α : Type} (x y : α) : cnd true x y = x := rfl
theorem cnd_false {α : Type} (x y : α) : cnd false x y = y := rfl
/-- A choice between two ways on. -/
def wantK {α : Type} (f g : St → α) (s1 s2 : St) : Bool → α
  | true => f s1
  | false => g s2

section ops
variable (P : Program)
def isAg : TypeDesc → Bool
  | .struct _ | .array _ _ => true
  | _ => false
/-- Is a type an aggregate; how many cells. -/
def tyi (t : TypeId) : Option (Bool × Nat) := (P.underlying t).bind fun d => (P.info? t).map fun i => (isAg d, i.size)
/-- A field: its first cell, is it an aggregate, its size. -/
def fldi (t : TypeId) (f : Nat) : Option (Nat × Bool × Nat) := match P.underlying t with
  | some (.struct fs) => (fs[f]?).bind fun f => (tyi P f.type).map fun y => (f.offset, y)
  | _ => none
def eli (t : TypeId) : Option (Bool × Nat) := match P.underlying t with
  | some (.slice e) => tyi P e
  | _ => none
def ari (t : TypeId) : Option (Nat × Bool × Nat) := match P.underlying t with
  | some (.array len e) => (tyi P e).map fun y => (len, y)
  | _ => none
def isStr (t : TypeId) : Bool := match P.underlying t with | some .string => true | _ => false
def zer (t : TypeId) : Option AV := ((P.info? t).bind (·.zero)).map .of
def prt (ag : Bool) (off n : Nat) (cs : List AV) : Option AV :=
  bif ag then (bif Nat.ble (off + n) cs.length then some (.agg ((cs.drop off).take n)) else none) else cs[off]?
def iBin (op : BinOp) (k : IntKind) (a b : Int) : Option AV :=
  match op with
  | .add => some (.int k (k.wrap (a + b)))
  | .sub => some (.int k (k.wrap (a - b)))
  | .mul => some (.int k (k.wrap (a * b)))
  | .quo => cnd (decide (b = 0)) none (some (.int k (k.wrap (a.tdiv b))))
  | .rem => cnd (decide (b = 0)) none (some (.int k (a.tmod b)))
  | .and => some (.int k (k.wrap (BitVec.ofInt k.bits a &&& BitVec.ofInt k.bits b).toNat))
  | .or => some (.int k (k.wrap (BitVec.ofInt k.bits a ||| BitVec.ofInt k.bits b).toNat))
  | .xor => some (.int k (k.wrap (BitVec.ofInt k.bits a ^^^ BitVec.ofInt k.bits b).toNat))
  | .andNot => some (.int k (k.wrap (BitVec.ofInt k.bits a &&& ~~~ BitVec.ofInt k.bits b).toNat))
  | .eql => some (.bool (a == b))
  | .neq => some (.bool (a != b))
  | .lss => some (.bool (decide (a < b)))
  | .leq => some (.bool (decide (a ≤ b)))
  | .gtr => some (.bool (decide (b < a)))
  | .geq => some (.bool (decide (b ≤ a)))
  | _ => none
def iShift (op : BinOp) (k : IntKind) (a b : Int) : Option AV :=
  match op with
  | .shl => cnd (decide (b < 0)) none (some (.int k (k.wrap (a * 2 ^ min b.toNat k.bits))))
  | .shr => cnd (decide (b < 0)) none (some (.int k (a.fdiv (2 ^ min b.toNat k.bits))))
  | _ => none
def sBin (op : BinOp) (a b : List UInt8) : Option AV :=
  match op with
  | .add => cnd (decide (a.length + b.length < 2 ^ 62)) (some (.str (a ++ b))) none
  | .eql => some (.bool (a == b))
  | .neq => some (.bool (a != b))
  | .lss => some (.bool (Op.bytesLess a b))
  | .leq => some (.bool (Op.bytesLess a b || a == b))
  | .gtr => some (.bool !(Op.bytesLess a b || a == b))
  | .geq => some (.bool !(Op.bytesLess a b))
  | _ => none
def isSh : BinOp → Bool
  | .shl | .shr => true
  | _ => false
inductive CK where
  | int | bool | str
  deriving DecidableEq
/-- The cells of plain structs. -/
def eqCells : List CK → List AV → List AV → Option Bool
  | [], [], [] => some true
  | .int :: ks, .int k a :: l, .int k' b :: l' => bif k == k' then (eqCells ks l l').map fun r => (a == b) && r else none
  | .bool :: ks, .bool a :: l, .bool b :: l' => (eqCells ks l l').map fun r => (a == b) && r
  | .str :: ks, .str a :: l, .str b :: l' => (eqCells ks l l').map fun r => (a == b) && r
  | _, _, _ => none
def conc (t : TypeId) : Bool := match P.underlying t with
  | none => false
  | some (.interface _) => false
  | some _ => true
def ckOf (t : TypeId) : Option CK := match P.underlying t with
  | some (.int _) => some .int
  | some .bool => some .bool
  | some .string => some .str
  | _ => none
def ckFields (i : Nat) : List Field → Option (List CK)
  | [] => some []
  | f :: l => bif f.name != "_" && f.offset == i then (ckOf P f.type).bind fun k => (ckFields (i + 1) l).map (k :: ·) else none
/-- A struct of integers, bools and strings, with no blank field. -/
def plainSt (t : TypeId) : Option (List CK) := match P.underlying t with
  | some (.struct fs) => bif !(P.stoodInHeld t) && !(P.eqGuardType P.depth t) then ckFields P 0 fs.toList else none
  | _ => none
def isBool (t : TypeId) : Bool := match P.underlying t with | some .bool => true | _ => false
inductive NilK where
  | sl | pt | fn | ifc | no
def nilK (t : TypeId) : NilK := match P.underlying t with
  | some (.slice _) => .sl
  | some (.pointer _) => .pt
  | some (.func _ _ _) => .fn
  | some (.interface _) => .ifc
  | _ => .no
/-- Comparison of what may be compared with nil alone; of plain structs. -/
def eqV (t : TypeId) (x y : AV) : Option Bool :=
  match x, y with
  | .bool a, .bool b => bif isBool P t then some (a == b) else none
  | .agg l, .agg l' => (plainSt P t).bind fun ks => eqCells ks l l'
  | .sl n _ _ _, .sl true _ [] .full => match nilK P t with | .sl => some n | _ => none
  | .hs .., .sl true _ [] .full => match nilK P t with | .sl => some false | _ => none
  | .ep _, .val (.pointer none) => match nilK P t with | .pt => some false | _ => none
  | .pt .., .val (.pointer none) => match nilK P t with | .pt => some false | _ => none
  | .val (.pointer none), .val (.pointer none) => match nilK P t with | .pt => some true | _ => none
  | .fn .., .val .nilFunc => match nilK P t with | .fn => some false | _ => none
  | .val .nilFunc, .val .nilFunc => match nilK P t with | .fn => some true | _ => none
  | .ifc .., .val .nilIface => match nilK P t with | .ifc => some false | _ => none
  | _, _ => none
def bin (op : BinOp) (t : TypeId) (x y : AV) : Option AV :=
  match x, y with
  | .int k a, .int k' b => bif isSh op then iShift op k a b else bif k == k' then iBin op k a b else none
  | .str a, .str b => sBin op a b
  | x, y => match op with
    | .eql => (eqV P t x y).map .bool
    | .neq => (eqV P t x y).map fun r => .bool !r
    | _ => none
def uny (op : UnOp) (x : AV) : Option AV :=
  match op, x with
  | .neg, .int k n => some (.int k (k.wrap (0 - n)))
  | .not, .bool a => some (.bool !a)
  | .xor, .int k n => some (.int k (k.wrap (BitVec.ofInt k.bits (if k.signed then -1 else k.max) ^^^ BitVec.ofInt k.bits n).toNat))
  | _, _ => none
/-- The right to append that a part has: none if it begins or ends elsewhere. -/
def Tok.cut (tok : Tok) (l h len : Nat) : Tok :=
  bif h == len then (match tok with
    | .full => .full
    | .own k g => bif l == 0 then .own k g else .no
    | .no => .no) else .no
def idx (x : Option AV) (d : Int) : Option Int := match x with | none => some d | some y => y.asI
/-- Bounds of a part; with a third index: where the capacity ends. -/
def bounds (len : Nat) (lo hi : Option AV) : Option (Nat × Nat) :=
  (idx lo 0).bind fun l => (idx hi len).bind fun h => cnd (decide (0 ≤ l ∧ l ≤ h ∧ h ≤ len)) (some (l.toNat, h.toNat)) none
def sub {α : Type} (l h : Nat) (xs : List α) : List α := (xs.take h).drop l
def slcK (sz : Nat) (nil : Bool) (n : Nat) (els : List AV) (tok : Tok) (mx : Option AV) (r : Nat × Nat) : Option AV :=
  cnd (els.isEmpty || sz == n) (match mx with
    | none => some (.sl nil n (sub r.1 r.2 els) (tok.cut r.1 r.2 els.length))
    | some m => m.asI.bind fun m => cnd (decide (m = r.2)) (some (.sl nil n (sub r.1 r.2 els) .full)) none) none
def hsK (k g n o len : Nat) (full : Bool) (mx : Option AV) (r : Nat × Nat) : Option AV :=
  match mx with
  | none => some (bif r.1 == r.2 then (bif r.2 == 0 then .hs k g n o 0 (full && 0 == len) else .sl false 0 [] .no) else .hs k g n (o + r.1) (r.2 - r.1) (full && r.2 == len))
  | some m => m.asI.bind fun m => cnd (decide (m = r.2)) (some (bif r.1 == r.2 then .sl false 0 [] .full else .hs k g n (o + r.1) (r.2 - r.1) true)) none
def slc (t : TypeId) (x : AV) (lo hi mx : Option AV) : Option AV :=
  match x with
  | .sl nil n els tok => (eli P t).bind fun (_, sz) => (bounds els.length lo hi).bind (slcK sz nil n els tok mx)
  | .hs k g n o len full => (eli P t).bind fun (_, sz) => cnd (sz == n) ((bounds len lo hi).bind (hsK k g n o len full mx)) none
  | .str a => match mx with
    | none => bif isStr P t then (bounds a.length lo hi).map fun r => .str (sub r.1 r.2 a) else none
    | some _ => none
  | _ => none
def bytes : List AV → Option (List UInt8)
  | [] => some []
  | .int .u8 n :: l => (bytes l).map fun r => UInt8.ofNat n.toNat :: r
  | _ => none
def ofBytes (s : List UInt8) : List AV := s.map fun b => .int .u8 b.toNat
inductive ConvK where
  | int (k : IntKind) | str | toBytes | toStr | rune | no
def convK (src dst : TypeId) : ConvK := match P.underlying src, P.underlying dst with
  | some (.int _), some (.int k) => .int k
  | some (.int _), some .string => .rune
  | some .string, some .string => .str
  | some .string, some (.slice e) => match P.underlying e with | some (.int .u8) => .toBytes | _ => .no
  | some (.slice e), some .string => match P.underlying e with | some (.int .u8) => .toStr | _ => .no
  | _, _ => .no
def conv (src dst : TypeId) (x : AV) : Option AV :=
  match convK P src dst, x with
  | .int k, .int _ n => some (.int k (k.wrap n))
  | .str, .str a => some (.str a)
  | .rune, .int _ n => cnd (decide (0 ≤ n ∧ n < 128)) (some (.str [UInt8.ofNat n.toNat])) none
  | .toStr, .sl _ _ els _ => (bytes els).map .str
  | _, _ => none
def fill (cells : List AV) : List (Option (Nat × Nat) × AV) → Option (List AV)
  | [] => some cells
  | (p, x) :: rest =>
    match p with
    | none => none
    | some (off, size) =>
      bif x.row size && Nat.ble (off + size) cells.length then fill (cells.take off ++ x.cells ++ cells.drop (off + size)) rest else none
/-- The places of a struct's fields. -/
def plc (t : TypeId) : Option (List (Nat × Nat)) := match P.underlying t with
  | some (.struct fs) => fs.toList.mapM fun f => (tyi P f.type).map fun y => (f.offset, y.2)
  | _ => none
def build (t : TypeId) (parts : List (Nat × AV)) : Option AV :=
  (zer P t).bind fun z => bif z.cells.all AV.isCell then (match ari P t with
    | some (_, _, n) => (fill z.cells (parts.map fun (i, x) => (some (i * n, n), x))).map .agg
    | none => (plc P t).bind fun pl => (fill z.cells (parts.map fun (i, x) => (pl[i]?, x))).map .agg) else none
def fillEls (n : Nat) (els : List AV) : List (Nat × AV) → Option (List AV)
  | [] => some els
  | (i, x) :: rest => bif x.row n && Nat.blt i els.length then fillEls n (els.set i x) rest else none
def zerE (t : TypeId) : Option AV := match P.underlying t with
  | some (.slice e) => zer P e
  | _ => none
def rowOf (t : TypeId) (len : Nat) (parts : List (Nat × AV)) : Option (Nat × List AV) :=
  (eli P t).bind fun (_, n) => (zerE P t).bind fun z => bif z.row n && Nat.ble (len * n) (2 ^ 24) && Nat.blt 0 n then (fillEls n (List.replicate len z) parts).map fun els => (n, els) else none
def fold2 (f : Int → Int → Int) (k : IntKind) : Int → List AV → Option AV
  | a, [] => some (.int k a)
  | a, .int _ b :: l => fold2 f k (f a b) l
  | _, _ => none
def mx2 (a b : Int) : Int := if b > a then b else a
def mn2 (a b : Int) : Int := if b < a then b else a
def lenV (t : TypeId) (x : AV) : Option AV :=
  match x with
  | .sl _ _ els _ => (eli P t).map fun _ => .int .i64 els.length
  | .hs _ _ _ _ len _ => (eli P t).map fun _ => .int .i64 len
  | .str a => bif isStr P t then some (.int .i64 a.length) else none
  | _ => (ari P t).map fun a => .int .i64 a.1
/-- The capacity, where it is known. -/
def capV (t : TypeId) (x : AV) : Option AV :=
  match x with
  | .sl _ _ els .full => (eli P t).map fun _ => .int .i64 els.length
  | .hs _ _ _ _ len true => (eli P t).map fun _ => .int .i64 len
  | _ => none
def bltn (b : Builtin) (args : List AV) (ts : List TypeId) : Option AV :=
  match b, args, ts with
  | .len, [x], [t] => lenV P t x
  | .cap, [x], [t] => capV P t x
  | .max, .int k a :: l, _ => fold2 mx2 k a l
  | .min, .int k a :: l, _ => fold2 mn2 k a l
  | _, _, _ => none
/-- What an operation yields that does not look at the call's own state. -/
def evP (ρ : Operand → AV) : Op → Option AV
  | .move x | .assign x => some (ρ x)
  | .pick c a b => (ρ c).asB.map fun t => bif t then ρ a else ρ b
  | .field t x f => (ρ x).asAgg.bind fun cs => (fldi P t f).bind fun (o, ag, n) => prt ag o n cs
  | .extract x i => (ρ x).asTup.bind fun cs => cs[i]?
  | .makeFunc f a b => some (.fn f (a.toList.map ρ) (b.toList.map ρ))
  | .makeInterface t x => bif conc P t then some (.ifc t (ρ x)) else none
  | .binOp op t x y _ => bin P op t (ρ x) (ρ y)
  | .unOp op _ x => uny op (ρ x)
  | .convert a b x => conv P a b (ρ x)
  | .index t x j => (ρ j).asI.bind fun j => match ρ x with
    | .str a => cnd (isStr P t) (cnd (decide (0 ≤ j ∧ j < a.length)) ((a[j.toNat]?).map fun c => .int .u8 c.toNat) none) none
    | .agg cs => (ari P t).bind fun (len, ag, n) => cnd (decide (0 ≤ j ∧ j < len)) (prt ag (j.toNat * n) n cs) none
    | _ => none
  | .indexAddr t x j => (ρ j).asI.bind fun j => match ρ x with
    | .sl _ n els _ => (eli P t).bind fun (_, n') => cnd ((n' == n) && decide (0 ≤ j ∧ j < els.length)) ((els[j.toNat]?).map .ep) none
    | .hs k g n lo len _ => (eli P t).bind fun (_, n') => cnd ((n' == n) && decide (0 ≤ j ∧ j < len)) (some (.pt k g (lo + j.toNat) 0)) none
    | .pt k g i o => (ari P t).bind fun (len, _, n) => cnd (decide (0 ≤ j ∧ j < len)) (some (.pt k g i (o + j.toNat * n))) none
    | .ep e => (ari P t).bind fun (len, ag, n) => cnd (decide (0 ≤ j ∧ j < len)) ((prt ag (j.toNat * n) n e.cells).map .ep) none
    | _ => none
  | .load t x => match ρ x with
    | .ep e => (tyi P t).bind fun (ag, n) => prt ag 0 n e.cells
    | _ => none
  | .fieldAddr t x f => match ρ x with
    | .ep e => (fldi P t f).bind fun (o, ag, n) => bif n == 0 then none else (prt ag o n e.cells).map .ep
    | .pt k g i o => (fldi P t f).bind fun (o', _, n) => bif n == 0 then none else some (.pt k g i (o + o'))
    | _ => none
  | .slice t x lo hi mx => bif mx.isNone || hi.isSome then slc P t (ρ x) (lo.map ρ) (hi.map ρ) (mx.map ρ) else none
  | .nilCheck x => match ρ x with
    | .ep e => some (.ep e)
    | .pt k g i o => some (.pt k g i o)
    | _ => none
  | .build t parts => build P t (parts.toList.map fun (i, x) => (i, ρ x))
  | .buildSlice t len parts => (rowOf P t len (parts.toList.map fun (i, x) => (i, ρ x))).map fun (n, els) => .sl false n els .full
  | .call c => match c.callee with
    | .builtin b => bltn P b (c.args.toList.map ρ) c.argTypes.toList
    | _ => none
  | _ => none
/-- What an operation touches of the own state: nothing, a variable, the rights to append, all. -/
inductive Acc where
  | no
  | rd (k : Nat)
  | wr (k : Nat)
  | nw (k : Nat)
  | tk (k : Nat)
  | all
  deriving DecidableEq, Inhabited
def Acc.conf : Acc → Acc → Bool
  | .no, _ | _, .no => false
  | .all, _ | _, .all => true
  | .rd _, .rd _ => false
  | .tk _, .rd _ | .tk _, .wr _ | .rd _, .tk _ | .wr _, .tk _ => false
  | .tk a, .tk b | .nw a, .tk b | .tk a, .nw b | .nw a, .nw b | .rd a, .wr b | .wr a, .rd b | .wr a, .wr b | .rd a, .nw b | .nw a, .rd b | .wr a, .nw b | .nw a, .wr b => a == b
def elemsOf (n : Nat) : AV → Option (List AV)
  | .sl _ n' els _ => bif els.isEmpty || n' == n then some els else none
  | .str a => bif n == 1 then some (ofBytes a) else none
  | _ => none
def setTk (k g len : Nat) (ty : TypeId) : List (Nat × Nat × Nat × TypeId) → List (Nat × Nat × Nat × TypeId)
  | [] => [(k, g, len, ty)]
  | e :: l => bif Nat.blt k e.1 then (k, g, len, ty) :: e :: l else bif e.1 == k then (k, g, len, ty) :: l else e :: setTk k g len ty l
def hasTk (k g len : Nat) (ty : TypeId) (l : List (Nat × Nat × Nat × TypeId)) : Bool := l.any fun e => e.1 == k && (e.2.1 == g && (e.2.2.1 == len && e.2.2.2 == ty))
/-- A right of its own for a new row. -/
def newTk (s : St) (k len : Nat) (ty : TypeId) : St := { s with nx := bump k s.nx, lv := setTk k (s.nw k) len ty s.lv }
/-- A new variable or row. -/
def newBlk (s : St) (k n : Nat) (els : List AV) (ty : TypeId) (va : Bool) : St := { s with nx := bump k s.nx, hp := addBlk { k, g := s.nw k, n, els, ty, va } s.hp }
def appT (mu : Bool) (ty : TypeId) (n n' k : Nat) (els ds : List AV) (tok : Tok) (s : St) : Option (AV × Acc × St) :=
  match tok with
  | .full => bif mu then some (.hs k (s.nw k) n 0 (els.length + ds.length) false, .nw k, newBlk s k n (els ++ ds) ty false)
    else some (.sl false n (els ++ ds) (.own k (s.nw k)), .tk k, newTk s k (els ++ ds).length ty)
  | .own k' g => cnd (hasTk k' g els.length ty s.lv && n' == n) (some (.sl false n (els ++ ds) (.own k' g), .tk k', { s with lv := setTk k' g (els ++ ds).length ty s.lv })) none
  | .no => none
def isFree : Tok → Bool
  | .own _ _ => false
  | _ => true
/-- A row goes on under a new number. -/
def St.ren (s : St) (k g : Nat) (els : List AV) : St := { s with nx := bump k s.nx, hp := s.hp.map fun b => bif b.k == k && b.g == g then { b with g := s.nw k, els } else b }
/-- Appending to a row of our own, from its beginning on: the row goes on under a new number; what else leads to it is given up. -/
def appH (ty : TypeId) (n k g lo len : Nat) (ds : List AV) (s : St) : Option (AV × Acc × St) :=
  (s.blk k g).bind fun b => cnd (decide (lo = 0 ∧ len ≤ b.els.length)) (bif b.n == n && (b.ty == ty && (!b.va && !b.fz)) then
    some (.hs k (s.nw k) n 0 (len + ds.length) false, .nw k, s.ren k g (b.els.take len ++ ds)) else none) none
/-- Appending: n cells an element, so many bytes; k: where it stands. -/
def app (mu : Bool) (ty : TypeId) (n bytes k : Nat) (x y : AV) (s : St) : Option (AV × Acc × St) :=
  match x with
  | .sl nil n' els tok => (elemsOf n y).bind fun ds =>
    cnd (decide ((els.length + ds.length + 1) * (bytes + 1) ≤ 2 ^ 36) && (els.isEmpty || n' == n)) (cnd (ds.isEmpty && isFree tok) (some (.sl nil n' els tok, .no, s)) (appT mu ty n n' k els ds tok s)) none
  | .hs k' g n' lo len full => (elemsOf n y).bind fun ds =>
    cnd (decide ((len + ds.length + 1) * (bytes + 1) ≤ 2 ^ 36) && n' == n) (cnd ds.isEmpty (some (.hs k' g n' lo len full, .no, s)) (appH ty n k' g lo len ds s)) none
  | _ => none
/-- Appending, also what stands in a row of our own. -/
def appY (mu : Bool) (ty : TypeId) (n bytes k : Nat) (x y : AV) (s : St) : Option (AV × Acc × St) :=
  match y with
  | .hs k' g n' lo len _ => (s.blk k' g).bind fun b => cnd (decide (lo + len ≤ b.els.length)) (bif n' == n && b.n == n then (app mu ty n bytes k x (.sl false n ((b.els.drop lo).take len) .no) s).map fun r => (r.1, .all, r.2.2) else none) none
  | y => app mu ty n bytes k x y s
def bytesOf (t : TypeId) : Option Nat := match P.underlying t with
  | some (.slice e) => (P.info? e).map (·.bytes)
  | _ => none
def upd (o : Nat) (y el : AV) : AV := match el with
  | .agg cs => .agg (cs.take o ++ y.cells ++ cs.drop (o + y.cells.length))
  | _ => y
/-- A zero element has as many cells. -/
def zOk (t : TypeId) (n : Nat) : Bool := match zerE P t with
  | some z => z.row n
  | none => false
def notInt (t : TypeId) : Bool := match P.underlying t with
  | none => false
  | some (.int _) => false
  | some _ => true
/-- The type of a slice's elements. -/
def elT (t : TypeId) : TypeId := match P.underlying t with
  | some (.slice e) => e
  | _ => 0
def isIntT (t : TypeId) : Bool := match P.underlying t with
  | some (.int _) => true
  | _ => false
/-- Appending so many zeros (of a make that is not carried out). -/
def appZ (mu : Bool) (t : TypeId) (n bs k : Nat) (x y : AV) (s : St) : Option (AV × Acc × St) :=
  match y with
  | .int _ m => cnd (decide (0 ≤ m ∧ m.toNat * (bs + 1) ≤ 2 ^ 36)) ((zerE P t).bind fun z => app mu (elT P t) n bs k x (.sl false n (List.replicate m.toNat z) .no) s) none
  | _ => none
def appN (mu : Bool) (t t2 : TypeId) (n bs k : Nat) (x y : AV) (s : St) : Option (AV × Acc × St) :=
  bif notInt P t2 then appY mu (elT P t) n bs k x y s else bif isIntT P t2 then appZ P mu t n bs k x y s else none
def appC (mu : Bool) (k : Nat) (args : List AV) (ts : List TypeId) (s : St) : Option (AV × Acc × St) :=
  match args, ts with
  | [x, y], [t, t2] => (eli P t).bind fun (_, n) => (bytesOf P t).bind fun bs => bif n == 0 || !zOk P t n then none else appN P mu t t2 n bs k x y s
  | _, _ => none
/-- A new variable. -/
def var (s : St) (d : Option Tmp) (ty : TypeId) (z : AV) : Option (AV × Acc × St) :=
  bif z.row z.cells.length && !(z.cells.length == 0) then some (.pt (s.kb + d.getD 0) (s.nw (s.kb + d.getD 0)) 0 0, .nw (s.kb + d.getD 0), newBlk s (s.kb + d.getD 0) z.cells.length [z] ty true) else none
/-- A row of our own that changes no more. -/
def St.frz (s : St) (k g : Nat) : St := { s with hp := s.hp.map fun b => bif b.k == k && b.g == g then { b with fz := true } else b }
/-- Elements of an array, from one on: cells o on, n cells each. -/
def arrEls (ag : Bool) (n o : Nat) (cells : List AV) : Nat → Nat → Option (List AV)
  | _, 0 => some []
  | l, c + 1 => (prt ag (o + l * n) n cells).bind fun e => cnd (e.row n) ((arrEls ag n o cells (l + 1) c).map (e :: ·)) none
/-- A part of an array variable, read out; the variable changes no more. -/
def slcArr (k g o : Nat) (b : Blk) (i : Nat) (s : St) (y : Nat × Bool × Nat) (r : Nat × Nat) : Option (AV × Acc × St) :=
  (b.els[i]?).bind fun e => (arrEls y.2.1 y.2.2 o e.cells r.1 (r.2 - r.1)).map fun els => (.sl false y.2.2 els (bif r.2 == y.1 then .full else .no), .wr k, s.frz k g)
/-- What an operation yields that looks at the call's own state, or changes it. -/
def evE (mu : Bool) (d : Option Tmp) (ρ : Operand → AV) (s : St) : Op → Option (AV × Acc × St)
  | .alloc e => (zer P e).bind fun z => var s d e z
  | .box e x => var s d e (ρ x)
  | .load t x => match ρ x with
    | .pt k g i o => (s.blk k g).bind fun b => (b.els[i]?).bind fun e => (tyi P t).bind fun (ag, n) => (prt ag o n e.cells).map fun y => (y, .rd k, s)
    | _ => none
  | .store t x y => match ρ x with
    | .pt k g i o => (s.blk k g).bind fun b => (b.els[i]?).bind fun e => (tyi P t).bind fun (_, n) =>
      bif (ρ y).row n && Nat.ble (o + n) e.cells.length && !b.fz && !(n == 0) then some (.undef, .wr k, s.setEls k g (b.els.set i (upd o (ρ y) e))) else none
    | _ => none
  | .slice t x lo hi mx => match ρ x with
    | .pt k g i o => (ari P t).bind fun y => (s.blk k g).bind fun b => bif mx.isNone then (bounds y.1 (lo.map ρ) (hi.map ρ)).bind (slcArr k g o b i s y) else none
    | _ => none
  | .convert a b x => match convK P a b, ρ x with
    | .toBytes, .str l => some (.sl false 1 (ofBytes l) (.own (s.kb + d.getD 0) (s.nw (s.kb + d.getD 0))), .tk (s.kb + d.getD 0), newTk s (s.kb + d.getD 0) (ofBytes l).length (elT P b))
    | _, _ => none
  | .makeSlice t l c => match ρ l, ρ c with
    | .int _ l, .int _ c => (eli P t).bind fun (_, n) => (bytesOf P t).bind fun bs => (zerE P t).bind fun z =>
      bif z.row n && !(n == 0) then
        cnd (decide (0 ≤ l ∧ l ≤ c ∧ c.toNat * (bs + 1) ≤ 2 ^ 40))
          (bif mu then some (.hs (s.kb + d.getD 0) (s.nw (s.kb + d.getD 0)) n 0 l.toNat (decide (c = l)), .nw (s.kb + d.getD 0), newBlk s (s.kb + d.getD 0) n (List.replicate l.toNat z) (elT P t) false)
           else some (.sl false n (List.replicate l.toNat z) (.own (s.kb + d.getD 0) (s.nw (s.kb + d.getD 0))), .tk (s.kb + d.getD 0), newTk s (s.kb + d.getD 0) l.toNat (elT P t))) none
      else none
    | _, _ => none
  | .call c => match c.callee with
    | .builtin .append => appC P mu (s.kb + d.getD 0) (c.args.toList.map ρ) c.argTypes.toList s
    | _ => none
  | _ => none
/-- Does an operation look at the call's own state, or change it? -/
def isE (ρ : Operand → AV) : Op → Bool
  | .alloc _ | .box _ _ | .store .. | .makeSlice .. => true
  | .load _ x => match ρ x with | .pt .. => true | _ => false
  | .slice _ x _ _ _ => match ρ x with | .pt .. => true | _ => false
  | .convert a b _ => match convK P a b with | .toBytes => true | _ => false
  | .call c => match c.callee with | .builtin .append => true | _ => false
  | _ => false
def noE (s : St) (x : AV) : AV × Acc × St := (x, .no, s)
def evV (mu : Bool) (d : Option Tmp) (ρ : Operand → AV) (s : St) (op : Op) : Option (AV × Acc × St) :=
  cnd (isE P ρ op) (evE P mu d ρ s op) ((evP P ρ op).map (noE s))
mutual
/-- Without rights to append. -/
def AV.shed : AV → AV
  | .agg cs => .agg (AV.shedL cs)
  | .tup cs => .tup (AV.shedL cs)
  | .sl nil n els (.own _ _) => .sl nil n els .no
  | x => x
def AV.shedL : List AV → List AV
  | [] => []
  | x :: l => AV.shed x :: AV.shedL l
end
/-- Rights to append given up; rows of our own read out, and frozen. -/
def snap0 (x : AV) (s : St) : Option (AV × St) := match x with
  | .sl nil n els (.own _ _) => some (.sl nil n els .no, s)
  | .hs k g _ lo len _ => (s.blk k g).bind fun b => cnd (decide (lo + len ≤ b.els.length)) (some (.sl false b.n ((b.els.drop lo).take len) .no, s.frz k g)) none
  | x => some (x, s)
def snapL (f : AV → St → Option (AV × St)) : List AV → St → Option (List AV × St)
  | [], s => some ([], s)
  | x :: l, s => (f x s).bind fun r => (snapL f l r.2).map fun q => (r.1 :: q.1, q.2)
def snap1 (x : AV) (s : St) : Option (AV × St) := match x with
  | .agg cs => (snapL snap0 cs s).map fun r => (.agg r.1, r.2)
  | x => snap0 x s
def snap (x : AV) (s : St) : Option (AV × St) := match x with
  | .tup cs => (snapL snap1 cs s).map fun r => (.tup r.1, r.2)
  | x => snap1 x s
inductive Ex where
  | normal
  | exit (id : Nat)
  | ret
  | pan (x : AV)
  deriving Inhabited
/-- How a call ends. -/
inductive Out where
  | ret (x : AV)
  | pan (x : AV)
  deriving Inhabited
/-- What the evaluator leans on: functions with a meaning of their own; which ones run in the caller's state; which ones keep rows of their own; which deferred ones catch, and what. -/
structure Cfg where
  ext : FuncId → Option (List AV → Option AV)
  extD : FuncId → Option (List AV → St → Option (AV × St))
  dirty : FuncId → Bool
  rows : FuncId → Bool
  caught : FuncId → Option TypeId
/-- Whom a call calls, with what. -/
def callee (f : AV) (args : List AV) : Option (FuncId × List AV) :=
  match f with
  | .fn (.func n) first captured => some (n, first ++ args ++ captured)
  | _ => none
inductive OpR where
  | ok (a : Acc) (s : St)
  | pan (x : AV) (s : St)
section code
variable (C : Cfg) (cF : FuncId → List AV → Option Out) (cD : FuncId → List AV → St → Option (Out × St)) (mu : Bool)
def afterC (a : Acc) (d : Option Tmp) (s : St) : Out → OpR
  | .ret x => .ok a (s.put d x)
  | .pan x => .pan x s
/-- Back in the caller's frame. -/
def inFrame (s0 s : St) : St := { s with tm := s0.tm, kb := s0.kb, df := s0.df }
def backD (d : Option Tmp) (s0 : St) : Out × St → OpR
  | (.ret x, s) => .ok .all ((inFrame s0 s).put d x)
  | (.pan x, s) => .pan x (inFrame s0 s)
/-- Where a call in the caller's state numbers its own: by cases, so that the kernel reckons with numerals. -/
def kbUp : Nat → Nat → Nat
  | 0, d => (d + 1) * 256
  | n + 1, d => (n + 1 + d + 1) * 256
def dirtyC (d : Option Tmp) (f : FuncId) (args : List AV) (s : St) : Option OpR := (cD f args { s with tm := [], df := [], kb := kbUp s.kb (d.getD 0) }).map (backD d s)
def snapC (d : Option Tmp) (f : FuncId) (args : List AV) (s : St) : Option OpR :=
  (snapL snap1 args s).bind fun r => cnd (AV.cleanL r.1) ((cF f r.1).map (afterC .all d r.2)) (dirtyC cD d f args s)
/-- A call. -/
def evCall (d : Option Tmp) (f : FuncId) (args : List AV) (s : St) : Option OpR :=
  bif C.dirty f then dirtyC cD d f args s else bif AV.cleanL (AV.shedL args) then (cF f (AV.shedL args)).map (afterC .no d s) else snapC cF cD d f args s
def putR (d : Option Tmp) (r : AV × Acc × St) : OpR := .ok r.2.1 (r.2.2.put d r.1)
def evOp (o : Oper) (s : St) : Option OpR :=
  match o.op with
  | .call c => match c.callee with
    | .value f => (callee (s.at f) (c.args.toList.map s.at)).bind fun (g, xs) => evCall C cF cD o.dst g xs s
    | _ => (evV P mu o.dst s.at s (.call c)).map (putR o.dst)
  | .panic x => match s.at x with
    | .ifc t y => some (.pan (.ifc t y) s)
    | _ => none
  | .defer c => match c.callee with
    | .value f => (callee (s.at f) (c.args.toList.map s.at)).map fun r => .ok .all ({ s with df := r :: s.df }.put o.dst .undef)
    | _ => none
  | op => (evV P mu o.dst s.at s op).map (putR o.dst)
/-- Is an operation wanted? ds: the slots of all. -/
def wanted (ds : List (Option Tmp)) (s : St) (o : Oper) : Option Bool :=
  match o.guard with
  | none => some true
  | some (j, want) => match ds[j]? with
    | some (some t) => (s.at (.tmp t)).gd want
    | _ => none
/-- A region in the text's order. -/
def opK (K : St → Option (Ex × St)) : OpR → Option (Ex × St)
  | .ok _ s => K s
  | .pan x s => some (.pan x, s)
def opT (o : Oper) (K : St → Option (Ex × St)) (s : St) : Option (Ex × St) := (evOp P C cF cD mu o s).bind (opK K)
def evSeq (ds : List (Option Tmp)) : List Oper → St → Option (Ex × St)
  | [], s => some (.normal, s)
  | o :: l, s => (wanted ds s o).bind (wantK (opT P C cF cD mu o (evSeq ds l)) (evSeq ds l) s (s.put o.dst .undef))
/-- A region that draws its order: as far as it is a question of order, told on. -/
def opD (K : List (Nat × Acc) → St → Option (Option (Nat × AV) × List (Nat × Acc) × St)) (n : Nat) (tc : List (Nat × Acc)) : OpR → Option (Option (Nat × AV) × List (Nat × Acc) × St)
  | .ok a s => K ((n, a) :: tc) s
  | .pan x s => some (some (n, x), tc, s)
def opTD (o : Oper) (K : List (Nat × Acc) → St → Option (Option (Nat × AV) × List (Nat × Acc) × St)) (n : Nat) (tc : List (Nat × Acc)) (s : St) : Option (Option (Nat × AV) × List (Nat × Acc) × St) :=
  (evOp P C cF cD mu o s).bind (opD K n tc)
def evDraw (ds : List (Option Tmp)) : List (Nat × Oper) → List (Nat × Acc) → St → Option (Option (Nat × AV) × List (Nat × Acc) × St)
  | [], tc, s => some (none, tc, s)
  | (i, o) :: l, tc, s => (wanted ds s o).bind (wantK (opTD P C cF cD mu o (evDraw ds l) i tc) (evDraw ds l tc) s (s.put o.dst .undef))
def numbered {α : Type} (n : Nat) : List α → List (Nat × α)
  | [] => []
  | x :: l => (n, x) :: numbered (n + 1) l
/-- The order of a region: edges lead back; a guard waits for what it asks, and nobody else writes that. -/
def edgesOk (ops : Array Oper) : Bool := ops.toList.zipIdx.all fun (o, i) => o.after.all fun e => !Region.binds .any e || Nat.blt e.on i
def guardsOk (ops : Array Oper) (b : Array Nat) : Bool := ops.toList.zipIdx.all fun (o, i) => match o.guard with
  | none => true
  | some (j, _) => (b.getD i 0).testBit j && ops.toList.zipIdx.all fun (o', k) => k == j || !(o'.dst == (ops[j]?).bind (·.dst))
def statOk (ops : Array Oper) : Bool := edgesOk ops && (guardsOk ops (Region.before ops) && Region.temporariesOk ops (Region.before ops))
/-- Of two that touch the own state, one of them writing, one waits for the other. -/
def orderOk (ops : Array Oper) (tc : List (Nat × Acc)) : Bool :=
  statOk ops && tc.all fun (j, aj) => tc.all fun (i, ai) => !(Nat.blt i j) || !(Acc.conf ai aj) || ((Region.before ops).getD j 0).testBit i
def endDraw (ops : Array Oper) : Option (Nat × AV) × List (Nat × Acc) × St → Option (Ex × St)
  | (none, tc, s) => bif orderOk ops tc then some (.normal, s) else none
  | (some _, _, _) => none
def loopN (body : St → Option (Ex × St)) : Nat → St → Option (Ex × St)
  | 0, _ => none
  | m + 1, s => (body s).bind fun r => match r with
    | (.normal, s') => loopN body m s'
    | r => some r
def seqK (b : St → Option (Ex × St)) : Ex × St → Option (Ex × St)
  | (.normal, s) => b s
  | r => some r
def blkK (id : Nat) : Ex × St → Ex × St
  | (.exit i, s) => bif i == id then (.normal, s) else (.exit i, s)
  | r => r
/-- Behind a round of a loop: the variables that it made are given up. -/
def dropB (mu : Bool) (s : St) (r : Ex × St) : Ex × St := (r.1, { r.2 with hp := r.2.hp.filter fun b => (mu && !b.va) || s.hp.any fun c => c.k == b.k })
def evC (lp : (St → Option (Ex × St)) → St → Option (Ex × St)) : Code → St → Option (Ex × St)
  | .skip, s => some (.normal, s)
  | .region _ ops draw, s => cnd draw ((evDraw P C cF cD mu (ops.toList.map (·.dst)) (numbered 0 ops.toList) [] s).bind (endDraw ops)) (evSeq P C cF cD mu (ops.toList.map (·.dst)) ops.toList s)
  | .seq a b, s => (evC lp a s).bind (seqK (evC lp b))
  | .cond c a b, s => (s.at c).asB.bind (wantK (evC lp a) (evC lp b) s s)
  | .block id c, s => (evC lp c s).map (blkK id)
  | .loop c, s => lp (fun s => (evC lp c s).map (dropB mu s)) s
  | .scope c, s => evC lp c s
  | .label _, s => some (.normal, s)
  | .exit id, s => some (.exit id, s)
  | .ret, s => some (.ret, s)
  | _, _ => none
end code
def result1 (s : St) : ResultVar → Option AV
  | .tmp t => some (s.tm.getD t .undef)
  | .cell a t => match s.tm.getD a .undef with
    | .pt k g i o => (s.blk k g).bind fun b => (b.els[i]?).bind fun e => (tyi P t).bind fun (ag, n) => prt ag o n e.cells
    | _ => none
def pack : List AV → AV
  | [x] => x
  | l => .tup l
def results (fn : Func) (s : St) : Option AV := (fn.results.toList.mapM (result1 P s)).map pack
/-- What the deferred calls do: none but such as catch. -/
def leave (C : Cfg) : List (FuncId × List AV) → Option AV → St → Option (Option AV × St)
  | [], p, s => some (p, s)
  | (f, args) :: l, p, s => match C.caught f, args with
    | some t, [.pt k g i o] => match p with
      | none => leave C l none s
      | some (.ifc t' x) => (s.blk k g).bind fun b => (b.els[i]?).bind fun e =>
        bif (t == t') && Nat.ble (o + x.cells.length) e.cells.length && !b.fz then leave C l none (s.setEls k g (b.els.set i (upd o x e))) else none
      | _ => none
    | _, _ => none
def finish (C : Cfg) (fn : Func) : Ex × St → Option (Out × St)
  | (.exit _, _) => none
  | (.pan x, s) => (leave C s.df (some x) s).bind fun
    | (none, s') => (results P fn s').map fun y => (.ret y, s')
    | (some y, s') => some (.pan y, s')
  | (_, s) => (leave C s.df none s).bind fun r => (results P fn r.2).map fun y => (.ret y, r.2)
def enter (fn : Func) (args : List AV) : List AV := args ++ List.replicate (fn.ntmps - args.length) .undef
/-- The variables of a call's own are given up. -/
def pop (keep : Bool) (s : St) : Out × St → Out × St := fun r => (r.1, bif keep then r.2 else { r.2 with hp := r.2.hp.filter fun b => s.hp.any fun c => c.k == b.k })
def shut : Out × St → Option Out
  | (.ret x, s) => (snap x s).bind fun r => cnd r.1.clean (some (.ret r.1)) none
  | (.pan x, s) => (snap x s).bind fun r => cnd r.1.clean (some (.pan r.1)) none
/-- The kinds of cells that are looked into. -/
inductive K where
  | int (k : IntKind) | bool | str | sl (n : Nat) | any
/-- The kinds of a type's cells. -/
def kinds : Nat → TypeId → Option (List K)
  | 0, _ => none
  | d + 1, t => match P.underlying t with
    | some (.int k) => some [.int k]
    | some .bool => some [.bool]
    | some .string => some [.str]
    | some (.slice e) => (P.info? e).map fun i => [.sl i.size]
    | some (.struct fs) => (fs.toList.mapM fun f => kinds d f.type).map List.flatten
    | some (.array n e) => (kinds d e).map fun l => (List.replicate n l).flatten
    | some _ => some [.any]
    | none => none
/-- A result: rights to append given up; no elements are so many cells each as the type says. -/
def K.nrm : K → AV → AV
  | .sl n, .sl nl 0 [] _ => .sl nl n [] .no
  | .sl _, .sl nl n els .full => .sl nl n els .no
  | _, x => x
def nrmL : List K → List AV → List AV
  | k :: ks, x :: l => k.nrm x :: nrmL ks l
  | _, l => l
def nrmK : Option (List K) → AV → AV
  | some ks, .agg cs => .agg (nrmL ks cs)
  | some [k], x => k.nrm x
  | _, x => x
def nrmT : List TypeId → List AV → List AV
  | t :: ts, x :: l => nrmK (kinds P 8 t) x :: nrmT ts l
  | _, l => l
def nrmR : List TypeId → AV → AV
  | [t], x => nrmK (kinds P 8 t) x
  | ts, .tup xs => .tup (nrmT P ts xs)
  | _, x => x
def nrmO (f : FuncId) : Out → Out
  | .ret x => .ret (nrmR P (((P.funcs[f]?).map fun fn => fn.resultTypes.toList).getD []) x)
  | x => x
section calls
variable (C : Cfg) (lp : (St → Option (Ex × St)) → St → Option (Ex × St)) (cF : FuncId → List AV → Option Out) (cD : FuncId → List AV → St → Option (Out × St))
/-- A call's body in a state. -/
def body (f : FuncId) (s : St) : Option (Out × St) :=
  (P.funcs[f]?).bind fun fn => fn.body.bind fun c => (evC P C cF cD (C.rows f) lp c s).bind (finish P C fn)
def frame (f : FuncId) (args : List AV) (s : St) : St :=
  { s with tm := ((P.funcs[f]?).map fun fn => enter fn args).getD [], df := [] }
/-- A function with a body. -/
def callOk (f : FuncId) : Bool := match P.funcs[f]? with
  | some fn => fn.name != "runtime.NumGoroutine" && fn.body.isSome
  | none => false
def stepF (f : FuncId) (args : List AV) : Option Out := cnd (callOk P f) (match C.ext f with
  | some h => (h args).map .ret
  | none => ((body P C lp cF cD f (frame P f args { tm := [], kb := 0, hp := [], nx := fun _ => 0, lv := [], df := [] })).bind shut).map (nrmO P f)) none
def stepD (f : FuncId) (args : List AV) (s : St) : Option (Out × St) := cnd (callOk P f) (match C.extD f with
  | some h => (h args s).map fun r => (.ret r.1, r.2)
  | none => (body P C lp cF cD f (frame P f args s)).map (pop (C.rows f) s)) none
end calls
mutual
/-- A call whose arguments are clean: what it yields. -/
def evF (C : Cfg) : Nat → FuncId → List AV → Option Out
  | 0, _, _ => none
  | k + 1, f, args => stepF P C (fun b => loopN b k) (evF C k) (evD C k) f args
/-- A call in the caller's own state. -/
def evD (C : Cfg) : Nat → FuncId → List AV → St → Option (Out × St)
  | 0, _, _, _ => none
  | k + 1, f, args, s => stepD P C (fun b => loopN b k) (evF C k) (evD C k) f args s
end
end ops
end Go.Ev
