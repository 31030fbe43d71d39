/-
  Printed: the functions of the code as Lean functions, and that calls of the model come to what these say; no condition.
-/
import Derived.Test.YtjfpcgkgdajcfaaGreatDoorEvBm
import Derived.Test.YtjfpcgkgdajcfaaGreatDoorCfgP
import Derived.Test.YtjfpcgkgdajcfaaGreatDoorProg
import Derived.KernelRfl
open Go Go.Ev Go.Proofs
set_option maxRecDepth 100000
namespace Go.Proofs.YtjfpcgkgdajcfaaGreatDoor
/-- What the evaluator leans on here. -/
def CC : Cfg := ⟨fun f => match f with | 109 => some itoaA | 117 => some atoiA | 93 => some cutA | 136 => some trimA | 111 => some repeatA | _ => none,
  fun f => match f with | 89 => some (copyX 80) | 63 => some (stringX 5) | _ => none,
  fun f => [59, 63, 89, 132, 133, 107, 70, 71, 72, 97].contains f, fun f => [41, 70, 97, 72, 50].contains f, fun _ => none⟩
/-- Along a path. -/
def EE : Env Tryz.prog CC := ⟨fun f => match f with | 89 => some (copyM 80) | 63 => some (stringM 5) | _ => none, fun f h hx => by
  split at hx
  · injection hx with hx; subst hx; exact ⟨_, rfl, fun _ _ => copyM_ok⟩
  · injection hx with hx; subst hx; exact ⟨_, rfl, fun _ _ => stringM_ok⟩
  · cases hx⟩
theorem ok_89 : callOk Tryz.prog 89 = true := by kernel_rfl
theorem ok_63 : callOk Tryz.prog 63 = true := by kernel_rfl
/-- A state of which the numbers of the blocks alone count. -/
def litS (hp : List Blk) (lv : List (Nat × Nat × Nat × TypeId)) : St := { tm := [], kb := 0, hp := hp, nx := fun _ => 0, lv := lv, df := [] }
def litB (g : Nat) : Blk := { (default : Blk) with g := g }
def litT (k g : Nat) : Nat × Nat × Nat × TypeId := (k, g, 0, 0)
/-- The library's functions. -/
def X109 : Nat → Int → Option (List UInt8)
  | 0, _ => none
  | _ + 1, a => bif decide (-9223372036854775808 ≤ a ∧ a ≤ 9223372036854775807) then some (Lib.itoa a) else none
def o_X109 (r : List UInt8) : Out := .ret (.str r)
theorem ok_109 : callOk Tryz.prog 109 = true := by kernel_rfl
theorem X109_ok {n : Nat} {a : Int} {r : List UInt8} (h : X109 n a = some r) : evF Tryz.prog CC n 109 [.int .i64 a] = some (o_X109 r) := by
  cases n with
  | zero => cases h
  | succ n =>
    refine ext_eq ok_109 (show CC.ext 109 = some itoaA from rfl) ?_
    unfold X109 at h
    unfold itoaA
    exact T.br h (fun h1 h => by dsimp only; rw [h1]; injection h with h; rw [h]; rfl) (fun _ h => by cases h)
def X117 : Nat → List UInt8 → Option (Int × AV)
  | 0, _ => none
  | _ + 1, l => bif decide (l.length ≤ 9223372036854775806) then (match Lib.atoiAll l with
    | .ok v => some (v, .val .nilIface)
    | _ => none) else none
def o_X117 (r : Int × AV) : Out := .ret (.tup [.int .i64 r.1, r.2])
theorem ok_117 : callOk Tryz.prog 117 = true := by kernel_rfl
theorem X117_ok {n : Nat} {l : List UInt8} {r : Int × AV} (h : X117 n l = some r) : evF Tryz.prog CC n 117 [.str l] = some (o_X117 r) := by
  cases n with
  | zero => cases h
  | succ n =>
    refine ext_eq ok_117 (show CC.ext 117 = some atoiA from rfl) ?_
    unfold X117 at h
    unfold atoiA
    refine T.br h (fun h1 h => ?_) (fun _ h => by cases h)
    dsimp only
    rw [h1, cnd_true]
    split at h
    · rename_i v hv
      injection h with h; subst h
      rw [hv]
    · cases h
def X93 : Nat → List UInt8 → List UInt8 → Option (List UInt8 × List UInt8 × Bool)
  | 0, _, _ => none
  | _ + 1, a, b => bif decide (a.length < 4294967281) then some (Lib.cut a b) else none
def o_X93 (r : List UInt8 × List UInt8 × Bool) : Out := .ret (.tup [.str r.1, .str r.2.1, .bool r.2.2])
theorem ok_93 : callOk Tryz.prog 93 = true := by kernel_rfl
theorem X93_ok {n : Nat} {a b : List UInt8} {r : List UInt8 × List UInt8 × Bool} (h : X93 n a b = some r) : evF Tryz.prog CC n 93 [.str a, .str b] = some (o_X93 r) := by
  cases n with
  | zero => cases h
  | succ n =>
    refine ext_eq ok_93 (show CC.ext 93 = some cutA from rfl) ?_
    unfold X93 at h
    unfold cutA
    exact T.br h (fun h1 h => by dsimp only; rw [h1]; injection h with h; rw [h]; rfl) (fun _ h => by cases h)
def X136 : Nat → List UInt8 → List UInt8 → Option (List UInt8)
  | 0, _, _ => none
  | _ + 1, a, b => bif (decide (a.length ≤ 9223372036854775807 ∧ b.length < 4294967281) && b.all (fun x => decide (x.toNat < 128))) then some (Lib.trimS a b) else none
def o_X136 (r : List UInt8) : Out := .ret (.str r)
theorem ok_136 : callOk Tryz.prog 136 = true := by kernel_rfl
theorem X136_ok {n : Nat} {a b r : List UInt8} (h : X136 n a b = some r) : evF Tryz.prog CC n 136 [.str a, .str b] = some (o_X136 r) := by
  cases n with
  | zero => cases h
  | succ n =>
    refine ext_eq ok_136 (show CC.ext 136 = some trimA from rfl) ?_
    unfold X136 at h
    unfold trimA
    exact T.br h (fun h1 h => by dsimp only; rw [h1]; injection h with h; rw [h]; rfl) (fun _ h => by cases h)
def X111 : Nat → List UInt8 → Int → Option (List UInt8)
  | 0, _, _ => none
  | _ + 1, a, n => bif decide (0 ≤ n ∧ n ≤ 9223372036854775807 ∧ a.length * n.toNat ≤ 140737488355328) then some (Lib.repeatL a n.toNat) else none
def o_X111 (r : List UInt8) : Out := .ret (.str r)
theorem ok_111 : callOk Tryz.prog 111 = true := by kernel_rfl
theorem X111_ok {n : Nat} {a : List UInt8} {c : Int} {r : List UInt8} (h : X111 n a c = some r) : evF Tryz.prog CC n 111 [.str a, .int .i64 c] = some (o_X111 r) := by
  cases n with
  | zero => cases h
  | succ n =>
    refine ext_eq ok_111 (show CC.ext 111 = some repeatA from rfl) ?_
    unfold X111 at h
    unfold repeatA
    exact T.br h (fun h1 h => by dsimp only; rw [h1]; injection h with h; rw [h]; rfl) (fun _ h => by cases h)

end Go.Proofs.YtjfpcgkgdajcfaaGreatDoor
