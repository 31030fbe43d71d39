/-
  Printed: the functions of the code as Lean functions, and that calls of the model come to what these say; no condition.
-/
import Derived.Test.YtjfpcgkgdajcfaaGreatDoorBaseE
import Derived.KernelRfl
open Go Go.Ev Go.Proofs
set_option maxRecDepth 100000
set_option linter.unusedVariables false
set_option linter.unusedSimpArgs false
namespace Go.Proofs.YtjfpcgkgdajcfaaGreatDoor
noncomputable def bd_55 : Code := match Tryz.f55.body with | some c => c | none => .skip
theorem is_55 : FnIs Tryz.prog CC 55 Tryz.f55 bd_55 := ⟨by kernel_rfl, by kernel_rfl, by kernel_rfl⟩
-- fleuron/affine.Placed
def o_F55 (r : Bool) : Out := .ret (.bool r)
def F55 : Nat → Int → Int → Option (Bool)
  | 0, _, _ => none
  | k + 1, a1, a2 => (bif (decide ((-268435455 : Int) ≤ (mn2 a1 a2))) then (some (decide ((mx2 a1 a2) ≤ (268435455 : Int)))) else (some false))
theorem F55_ok : ∀ {n : Nat} {a1 : Int} {a2 : Int} {r : Bool}, F55 n a1 a2 = some r → evF Tryz.prog CC n 55 [(.agg [(.int .i64 a1), (.int .i64 a2)])] = some (o_F55 r) := by
  intro n
  cases n with
  | zero => intro a1 a2 r h; exact T.no h
  | succ k => intro a1 a2 r h; unfold F55 at h; exact (T.br h (fun h3 h => (fnLf (E := EE) h is_55 rfl [Dt, .c 6] (cB h3 c0) (by kernel_rfl))) (fun h3 h => (fnLf (E := EE) h is_55 rfl [Df, .c 6] (cB h3 c0) (by kernel_rfl))))
noncomputable def bd_54 : Code := match Tryz.f54.body with | some c => c | none => .skip
theorem is_54 : FnIs Tryz.prog CC 54 Tryz.f54 bd_54 := ⟨by kernel_rfl, by kernel_rfl, by kernel_rfl⟩
-- fleuron/paths.Lines$1
def o_F54 (r : Bool) : Out := .ret (.bool r)
def F54 : Nat → Int → Int → Option (Bool)
  | 0, _, _ => none
  | k + 1, a1, a2 => (Option.bind (F55 k a1 a2) fun r3 => (some (!r3)))
theorem F54_ok : ∀ {n : Nat} {a1 : Int} {a2 : Int} {r : Bool}, F54 n a1 a2 = some r → evF Tryz.prog CC n 54 [(.agg [(.int .i64 a1), (.int .i64 a2)])] = some (o_F54 r) := by
  intro n
  cases n with
  | zero => intro a1 a2 r h; exact T.no h
  | succ k => intro a1 a2 r h; unfold F54 at h; exact (T.bd h fun r3 h4 h => (fnLf (E := EE) h is_54 rfl [.o (o_F55 r3), .c 1] (cP (F55_ok h4) c0) (by kernel_rfl)))
noncomputable def bd_87 : Code := match Tryz.f87.body with | some c => c | none => .skip
theorem is_87 : FnIs Tryz.prog CC 87 Tryz.f87 bd_87 := ⟨by kernel_rfl, by kernel_rfl, by kernel_rfl⟩
-- slices.IndexFunc[[]fleuron/api.Point,fleuron/api.Point]
noncomputable def c_F87_L1 : Code := Code.sub' bd_87 [1, 0, 1, 0, 0]
def mkF87_L1_X0_w0 (a1 : Bool) (a2 : List AV) (r : Int) (z s : St) : St := { tm := ovr s 19 0 [(4, (.int .i64 r))], kb := 0, hp := [], nx := s.nx, lv := [], df := [] }
def mkF87_L1_X1_w0 (a1 : Bool) (a2 : List AV) (r : Unit) (z s : St) : St := { tm := ovr s 19 0 [], kb := 0, hp := [], nx := s.nx, lv := [], df := [] }
def Q_F87_L1 (a1 : Bool) (a2 : List AV) (z : St) (r : (Int) ⊕ (Unit)) (o : Option (Ex × St)) : Prop := match r with
  | (.inl r) => (∃ s, o = some (.ret, mkF87_L1_X0_w0 a1 a2 r z s))
  | (.inr r) => (∃ s, o = some (.exit 0, mkF87_L1_X1_w0 a1 a2 r z s))
def F87_L1 (k : Nat) (a2 : List AV) : Nat → Int → Option ((Int) ⊕ (Unit))
  | 0, _ => none
  | m + 1, x17 => (bif (decide (x17 < ((a2.length : Nat) : Int))) then (asrt (decide (0 ≤ x17 ∧ x17 < ((a2.length : Nat) : Int))) (asrt (okE true [.int .i64, .int .i64] a2 (Int.toNat x17)) (Option.bind (F54 k (eI a2 (Int.toNat x17) 0) (eI a2 (Int.toNat x17) 1)) fun r21 => (bif r21 then (some (.inl x17)) else (F87_L1 k a2 m (w64 (x17 + (1 : Int)))))))) else (some (.inr ())))
def mkF87_L1_v0 (a1 : Bool) (a2 : List AV) (x17 : Int) (z s : St) : St := { tm := ovr s 19 0 [(0, (.sl a1 2 a2 .full)), (1, (.fn (.func 54) [] [])), (7, (.int .i64 ((a2.length : Nat) : Int))), (8, (.int .i64 x17))], kb := 0, hp := [], nx := s.nx, lv := [], df := [] }
theorem F87_L1_v0_ok {k : Nat} {a1 : Bool} {a2 : List AV} : ∀ {m : Nat} {x17 : Int} {z s : St} {r : (Int) ⊕ (Unit)}, F87_L1 k a2 m x17 = some r → Q_F87_L1 a1 a2 z r (loopN (bEv Tryz.prog CC k 87 c_F87_L1) m (mkF87_L1_v0 a1 a2 x17 z s)) := by
  intro m
  induction m with
  | zero => intro x17 z s r h; exact T.no h
  | succ m ih => intro x17 z s r h; unfold F87_L1 at h; exact (T.br h (fun h18 h => (T.as h fun h19 h => (T.as h fun h20 h => (T.bd h fun r21 h22 h => (T.br h (fun h23 h => (lpLf (E := EE) (Q := Q_F87_L1 a1 a2 z) (p := [Dt, Dt, Dt, .o (o_F54 r21), .c 0, Dt]) (g := mkF87_L1_X0_w0 a1 a2 x17 z) h (cB h18 (cP h19 (cP h20 (cP (F54_ok h22) (cB h23 c0))))) rfl (fun s2 => ⟨s2, rfl⟩) (by kernel_rfl))) (fun h23 h => (lpGo (E := EE) (Q := Q_F87_L1 a1 a2 z r) (p := [Dt, Dt, Dt, .o (o_F54 r21), .c 0, Df]) (cB h18 (cP h19 (cP h20 (cP (F54_ok h22) (cB h23 c0))))) (fun s2 => ih (s := s2) h) (by kernel_rfl)))))))) (fun h18 h => (lpLf (E := EE) (Q := Q_F87_L1 a1 a2 z) (p := [Df]) (g := mkF87_L1_X1_w0 a1 a2 () z) h (cB h18 c0) rfl (fun s2 => ⟨s2, rfl⟩) (by kernel_rfl))))
def o_F87 (r : Int) : Out := .ret (.int .i64 r)
def F87 : Nat → Bool → List AV → Option (Int)
  | 0, _, _ => none
  | k + 1, a1, a2 => (Option.bind (F87_L1 k a2 k (0 : Int)) (Sum.elim (fun r24 => (some r24)) (fun r29 => (some (-1 : Int)))))
noncomputable def se_F87_1 (k : Nat) (a1 : Bool) (a2 : List AV) : St := stOf (oS EE k 87 bd_87 (st0 Tryz.f87 [(.sl a1 2 a2 .full), (.fn (.func 54) [] [])]) [.u 0, .u 0])
theorem F87_ok : ∀ {n : Nat} {a1 : Bool} {a2 : List AV} {r : Int}, F87 n a1 a2 = some r → evF Tryz.prog CC n 87 [(.sl a1 2 a2 .full), (.fn (.func 54) [] [])] = some (o_F87 r) := by
  intro n
  cases n with
  | zero => intro a1 a2 r h; exact T.no h
  | succ k => intro a1 a2 r h; unfold F87 at h; exact (T.b2 h (fun r24 h25 h => ((fun q => Exists.elim q fun s26 e27 => (fnLf (E := EE) h is_87 rfl [.u 0, .l (.ret, mkF87_L1_X0_w0 a1 a2 r24 (litS [] []) s26), .c 0] (cP e27 c0) (by kernel_rfl))) (F87_L1_v0_ok (a1 := a1) (z := (litS [] [])) (s := (se_F87_1 k a1 a2)) h25))) (fun r29 h30 h => ((fun q => Exists.elim q fun s31 e32 => (fnLf (E := EE) h is_87 rfl [.u 0, .l (.exit 0, mkF87_L1_X1_w0 a1 a2 r29 (litS [] []) s31), .c 0] (cP e32 c0) (by kernel_rfl))) (F87_L1_v0_ok (a1 := a1) (z := (litS [] [])) (s := (se_F87_1 k a1 a2)) h30))))
noncomputable def bd_53 : Code := match Tryz.f53.body with | some c => c | none => .skip
theorem is_53 : FnIs Tryz.prog CC 53 Tryz.f53 bd_53 := ⟨by kernel_rfl, by kernel_rfl, by kernel_rfl⟩
-- slices.ContainsFunc[[]fleuron/api.Point,fleuron/api.Point]
def o_F53 (r : Bool) : Out := .ret (.bool r)
def F53 : Nat → Bool → List AV → Option (Bool)
  | 0, _, _ => none
  | k + 1, a1, a2 => (Option.bind (F87 k a1 a2) fun r3 => (asrt (AV.cleanL a2) (some (decide ((0 : Int) ≤ r3)))))
theorem F53_ok : ∀ {n : Nat} {a1 : Bool} {a2 : List AV} {r : Bool}, F53 n a1 a2 = some r → evF Tryz.prog CC n 53 [(.sl a1 2 a2 .full), (.fn (.func 54) [] [])] = some (o_F53 r) := by
  intro n
  cases n with
  | zero => intro a1 a2 r h; exact T.no h
  | succ k => intro a1 a2 r h; unfold F53 at h; exact (T.bd h fun r3 h4 h => (T.as h fun h5 h => (fnLf (E := EE) h is_53 rfl [.o (o_F87 r3), Dt, .c 0] (cP (T.an h5 rfl) (cP (F87_ok h4) c0)) (by kernel_rfl))))
noncomputable def bd_88 : Code := match Tryz.f88.body with | some c => c | none => .skip
theorem is_88 : FnIs Tryz.prog CC 88 Tryz.f88 bd_88 := ⟨by kernel_rfl, by kernel_rfl, by kernel_rfl⟩
-- fleuron/fix.Floor
def o_F88 (r : Int) : Out := .ret (.int .i64 r)
def F88 : Nat → Int → Int → Option (Int)
  | 0, _, _ => none
  | k + 1, a1, a2 => (bif (decide (a2 = 0)) then none else (bif (decide ((a1.tmod a2) < (0 : Int))) then (some (w64 ((w64 (a1.tdiv a2)) - (1 : Int)))) else (some (w64 (a1.tdiv a2)))))
theorem F88_ok : ∀ {n : Nat} {a1 : Int} {a2 : Int} {r : Int}, F88 n a1 a2 = some r → evF Tryz.prog CC n 88 [(.int .i64 a1), (.int .i64 a2)] = some (o_F88 r) := by
  intro n
  cases n with
  | zero => intro a1 a2 r h; exact T.no h
  | succ k => intro a1 a2 r h; unfold F88 at h; exact (T.br h (fun h3 h => (T.no h)) (fun h3 h => (T.br h (fun h4 h => (fnLf (E := EE) h is_88 rfl [Df, Df, Dt, .c 0] (cP h3 (cP h3 (cB h4 c0))) (by kernel_rfl))) (fun h4 h => (fnLf (E := EE) h is_88 rfl [Df, Df, Df, .c 0] (cP h3 (cP h3 (cB h4 c0))) (by kernel_rfl))))))
noncomputable def bd_56 : Code := match Tryz.f56.body with | some c => c | none => .skip
theorem is_56 : FnIs Tryz.prog CC 56 Tryz.f56 bd_56 := ⟨by kernel_rfl, by kernel_rfl, by kernel_rfl⟩
-- fleuron/fix.Round
def o_F56 (r : Int) : Out := .ret (.int .i64 r)
def F56 : Nat → Int → Int → Option (Int)
  | 0, _, _ => none
  | k + 1, a1, a2 => (Option.bind (F88 k (w64 ((w64 ((2 : Int) * a1)) + a2)) (w64 ((2 : Int) * a2))) fun r3 => (some r3))
theorem F56_ok : ∀ {n : Nat} {a1 : Int} {a2 : Int} {r : Int}, F56 n a1 a2 = some r → evF Tryz.prog CC n 56 [(.int .i64 a1), (.int .i64 a2)] = some (o_F56 r) := by
  intro n
  cases n with
  | zero => intro a1 a2 r h; exact T.no h
  | succ k => intro a1 a2 r h; unfold F56 at h; exact (T.bd h fun r3 h4 h => (fnLf (E := EE) h is_56 rfl [.o (o_F88 r3), .c 1] (cP (F88_ok h4) c0) (by kernel_rfl)))
noncomputable def bd_14 : Code := match Tryz.f14.body with | some c => c | none => .skip
theorem is_14 : FnIs Tryz.prog CC 14 Tryz.f14 bd_14 := ⟨by kernel_rfl, by kernel_rfl, by kernel_rfl⟩
-- fleuron/paths.Lines
noncomputable def c_F14_L1 : Code := Code.sub' bd_14 [1, 1, 1, 1, 1, 0, 1, 0, 0]
def mkF14_L1_X0_w0 (a1 : Bool) (a2 : List AV) (a3 : Bool) (r : Bool × List AV) (z s : St) : St := { tm := ovr s 99 0 [(4, (.pt 4 (blkG z 0) 0 0)), (7, (.pt 7 (blkG z 1) 0 0))], kb := 0, hp := [{ k := 4, g := (blkG z 0), n := 2, els := ([(.agg [(.sl true 0 ([] : List AV) .full), (.bool false)])] : List AV), ty := 25, va := true, fz := false }, { k := 7, g := (blkG z 1), n := 2, els := ([(.agg [(.sl r.1 2 r.2 (.own 43 (lvG s 0))), (.bool a3)])] : List AV), ty := 25, va := true, fz := false }], nx := s.nx, lv := [(43, (lvG s 0), r.2.length, 40)], df := [] }
def mkF14_L1_X0_w1 (a1 : Bool) (a2 : List AV) (a3 : Bool) (r : Bool) (z s : St) : St := { tm := ovr s 99 0 [(4, (.pt 4 (blkG z 0) 0 0)), (7, (.pt 7 (blkG z 1) 0 0))], kb := 0, hp := [{ k := 4, g := (blkG z 0), n := 2, els := ([(.agg [(.sl true 0 ([] : List AV) .full), (.bool false)])] : List AV), ty := 25, va := true, fz := false }, { k := 7, g := (blkG z 1), n := 2, els := ([(.agg [(.sl r 0 ([] : List AV) .full), (.bool a3)])] : List AV), ty := 25, va := true, fz := false }], nx := s.nx, lv := [], df := [] }
def Q_F14_L1 (a1 : Bool) (a2 : List AV) (a3 : Bool) (z : St) (r : (Bool × List AV)) (o : Option (Ex × St)) : Prop := (∃ s, o = some (.exit 0, mkF14_L1_X0_w0 a1 a2 a3 r z s)) ∨ (∃ q s, r = (q, ([] : List AV)) ∧ o = some (.exit 0, mkF14_L1_X0_w1 a1 a2 a3 q z s))
def F14_L1 (k : Nat) (a2 : List AV) (a3 : Bool) : Nat → Int → Bool → List AV → Option ((Bool × List AV))
  | 0, _, _, _ => none
  | m + 1, x31, x32, x33 => (bif (decide (x31 < ((a2.length : Nat) : Int))) then (asrt (decide (0 ≤ x31 ∧ x31 < ((a2.length : Nat) : Int))) (asrt (okE true [.int .i64, .int .i64] a2 (Int.toNat x31)) (asrt (decide ((x33.length + 1 + 1) * (16 + 1) ≤ 2 ^ 36)) (bif (x31 == (w64 (((a2.length : Nat) : Int) - (1 : Int)))) then (bif a3 then (bif (decide (((a2.length : Nat) : Int) = 0)) then none else (asrt (decide (0 ≤ ((w64 (x31 + (1 : Int))).tmod ((a2.length : Nat) : Int)) ∧ ((w64 (x31 + (1 : Int))).tmod ((a2.length : Nat) : Int)) < ((a2.length : Nat) : Int))) (asrt (okE true [.int .i64, .int .i64] a2 (Int.toNat ((w64 (x31 + (1 : Int))).tmod ((a2.length : Nat) : Int)))) (Option.bind (F56 k (w64 ((eI a2 (Int.toNat ((w64 (x31 + (1 : Int))).tmod ((a2.length : Nat) : Int))) 0) - (eI a2 (Int.toNat x31) 0))) (3 : Int)) fun r43 => (Option.bind (F56 k (w64 ((eI a2 (Int.toNat ((w64 (x31 + (1 : Int))).tmod ((a2.length : Nat) : Int))) 1) - (eI a2 (Int.toNat x31) 1))) (3 : Int)) fun r45 => (asrt (decide (((x33 ++ ([(.agg [(.int .i64 (eI a2 (Int.toNat x31) 0)), (.int .i64 (eI a2 (Int.toNat x31) 1))])] : List AV)).length + 2 + 1) * (16 + 1) ≤ 2 ^ 36)) (F14_L1 k a2 a3 m (w64 (x31 + (1 : Int))) false ((x33 ++ ([(.agg [(.int .i64 (eI a2 (Int.toNat x31) 0)), (.int .i64 (eI a2 (Int.toNat x31) 1))])] : List AV)) ++ ([(.agg [(.int .i64 (w64 ((eI a2 (Int.toNat x31) 0) + r43))), (.int .i64 (w64 ((eI a2 (Int.toNat x31) 1) + r45)))]), (.agg [(.int .i64 (w64 ((eI a2 (Int.toNat ((w64 (x31 + (1 : Int))).tmod ((a2.length : Nat) : Int))) 0) - r43))), (.int .i64 (w64 ((eI a2 (Int.toNat ((w64 (x31 + (1 : Int))).tmod ((a2.length : Nat) : Int))) 1) - r45)))])] : List AV))))))))) else (some (false, (x33 ++ ([(.agg [(.int .i64 (eI a2 (Int.toNat x31) 0)), (.int .i64 (eI a2 (Int.toNat x31) 1))])] : List AV))))) else (bif (decide (((a2.length : Nat) : Int) = 0)) then none else (asrt (decide (0 ≤ ((w64 (x31 + (1 : Int))).tmod ((a2.length : Nat) : Int)) ∧ ((w64 (x31 + (1 : Int))).tmod ((a2.length : Nat) : Int)) < ((a2.length : Nat) : Int))) (asrt (okE true [.int .i64, .int .i64] a2 (Int.toNat ((w64 (x31 + (1 : Int))).tmod ((a2.length : Nat) : Int)))) (Option.bind (F56 k (w64 ((eI a2 (Int.toNat ((w64 (x31 + (1 : Int))).tmod ((a2.length : Nat) : Int))) 0) - (eI a2 (Int.toNat x31) 0))) (3 : Int)) fun r51 => (Option.bind (F56 k (w64 ((eI a2 (Int.toNat ((w64 (x31 + (1 : Int))).tmod ((a2.length : Nat) : Int))) 1) - (eI a2 (Int.toNat x31) 1))) (3 : Int)) fun r53 => (asrt (decide (((x33 ++ ([(.agg [(.int .i64 (eI a2 (Int.toNat x31) 0)), (.int .i64 (eI a2 (Int.toNat x31) 1))])] : List AV)).length + 2 + 1) * (16 + 1) ≤ 2 ^ 36)) (F14_L1 k a2 a3 m (w64 (x31 + (1 : Int))) false ((x33 ++ ([(.agg [(.int .i64 (eI a2 (Int.toNat x31) 0)), (.int .i64 (eI a2 (Int.toNat x31) 1))])] : List AV)) ++ ([(.agg [(.int .i64 (w64 ((eI a2 (Int.toNat x31) 0) + r51))), (.int .i64 (w64 ((eI a2 (Int.toNat x31) 1) + r53)))]), (.agg [(.int .i64 (w64 ((eI a2 (Int.toNat ((w64 (x31 + (1 : Int))).tmod ((a2.length : Nat) : Int))) 0) - r51))), (.int .i64 (w64 ((eI a2 (Int.toNat ((w64 (x31 + (1 : Int))).tmod ((a2.length : Nat) : Int))) 1) - r53)))])] : List AV))))))))))))) else (some (x32, x33)))
def mkF14_L1_v1 (a1 : Bool) (a2 : List AV) (a3 : Bool) (x31 : Int) (x32 : Bool) (x33 : List AV) (z s : St) : St := { tm := ovr s 99 0 [(0, (.sl a1 2 a2 .full)), (1, (.bool a3)), (4, (.pt 4 (blkG z 0) 0 0)), (7, (.pt 7 (blkG z 1) 0 0)), (32, (.sl a1 2 a2 .full)), (33, (.int .i64 ((a2.length : Nat) : Int))), (34, (.int .i64 x31))], kb := 0, hp := [{ k := 4, g := (blkG z 0), n := 2, els := ([(.agg [(.sl true 0 ([] : List AV) .full), (.bool false)])] : List AV), ty := 25, va := true, fz := false }, { k := 7, g := (blkG z 1), n := 2, els := ([(.agg [(.sl x32 2 x33 (.own 43 (lvG s 0))), (.bool a3)])] : List AV), ty := 25, va := true, fz := false }], nx := s.nx, lv := [(43, (lvG s 0), x33.length, 40)], df := [] }
theorem F14_L1_v1_ok {k : Nat} {a1 : Bool} {a2 : List AV} {a3 : Bool} : ∀ {m : Nat} {x31 : Int} {x32 : Bool} {x33 : List AV} {z s : St} {r : (Bool × List AV)}, F14_L1 k a2 a3 m x31 x32 x33 = some r → Q_F14_L1 a1 a2 a3 z r (loopN (bEv Tryz.prog CC k 14 c_F14_L1) m (mkF14_L1_v1 a1 a2 a3 x31 x32 x33 z s)) := by
  intro m
  induction m with
  | zero => intro x31 x32 x33 z s r h; exact T.no h
  | succ m ih => intro x31 x32 x33 z s r h; unfold F14_L1 at h; exact (T.br h (fun h34 h => (T.as h fun h35 h => (T.as h fun h36 h => (T.as h fun h37 h => (T.br h (fun h38 h => (T.br h (fun h39 h => (T.br h (fun h40 h => (T.no h)) (fun h40 h => (T.as h fun h41 h => (T.as h fun h42 h => (T.bd h fun r43 h44 h => (T.bd h fun r45 h46 h => (T.as h fun h47 h => (lpGo (E := EE) (Q := Q_F14_L1 a1 a2 a3 z r) (p := [Dt, Dt, Dt, Dt, Dt, .c 1, Df, Df, Dt, Dt, .o (o_F56 r43), .c 0, .o (o_F56 r45), .c 0, Dt]) (cB h34 (cP h35 (cP h36 (cP h37 (cB h38 (cB (T.nt h39) (cP h40 (cP h41 (cP h42 (cP (F56_ok h44) (cP (F56_ok h46) (cP h47 c0)))))))))))) (fun s2 => ih (s := s2) h) (by kernel_rfl)))))))))) (fun h39 h => (lpLf (E := EE) (Q := Q_F14_L1 a1 a2 a3 z) (p := [Dt, Dt, Dt, Dt, Dt, .c 1, Dt]) (g := mkF14_L1_X0_w0 a1 a2 a3 (false, (x33 ++ ([(.agg [(.int .i64 (eI a2 (Int.toNat x31) 0)), (.int .i64 (eI a2 (Int.toNat x31) 1))])] : List AV))) z) h (cB h34 (cP h35 (cP h36 (cP h37 (cB h38 (cB (T.nt h39) c0)))))) rfl (fun s2 => Or.inl ⟨s2, rfl⟩) (by kernel_rfl))))) (fun h38 h => (T.br h (fun h48 h => (T.no h)) (fun h48 h => (T.as h fun h49 h => (T.as h fun h50 h => (T.bd h fun r51 h52 h => (T.bd h fun r53 h54 h => (T.as h fun h55 h => (lpGo (E := EE) (Q := Q_F14_L1 a1 a2 a3 z r) (p := [Dt, Dt, Dt, Dt, Df, .c 2, Df, Dt, Dt, .o (o_F56 r51), .c 0, .o (o_F56 r53), .c 0, Dt]) (cB h34 (cP h35 (cP h36 (cP h37 (cB h38 (cP h48 (cP h49 (cP h50 (cP (F56_ok h52) (cP (F56_ok h54) (cP h55 c0))))))))))) (fun s2 => ih (s := s2) h) (by kernel_rfl))))))))))))))) (fun h34 h => (lpLf (E := EE) (Q := Q_F14_L1 a1 a2 a3 z) (p := [Df]) (g := mkF14_L1_X0_w0 a1 a2 a3 (x32, x33) z) h (cB h34 c0) rfl (fun s2 => Or.inl ⟨s2, rfl⟩) (by kernel_rfl))))
def mkF14_L1_v0 (a1 : Bool) (a2 : List AV) (a3 : Bool) (x31 : Int) (x32 : Bool) (z s : St) : St := { tm := ovr s 99 0 [(0, (.sl a1 2 a2 .full)), (1, (.bool a3)), (4, (.pt 4 (blkG z 0) 0 0)), (7, (.pt 7 (blkG z 1) 0 0)), (32, (.sl a1 2 a2 .full)), (33, (.int .i64 ((a2.length : Nat) : Int))), (34, (.int .i64 x31))], kb := 0, hp := [{ k := 4, g := (blkG z 0), n := 2, els := ([(.agg [(.sl true 0 ([] : List AV) .full), (.bool false)])] : List AV), ty := 25, va := true, fz := false }, { k := 7, g := (blkG z 1), n := 2, els := ([(.agg [(.sl x32 0 ([] : List AV) .full), (.bool a3)])] : List AV), ty := 25, va := true, fz := false }], nx := s.nx, lv := [], df := [] }
theorem F14_L1_v0_ok {k : Nat} {a1 : Bool} {a2 : List AV} {a3 : Bool} : ∀ {m : Nat} {x31 : Int} {x32 : Bool} {z s : St} {r : (Bool × List AV)}, F14_L1 k a2 a3 m x31 x32 ([] : List AV) = some r → Q_F14_L1 a1 a2 a3 z r (loopN (bEv Tryz.prog CC k 14 c_F14_L1) m (mkF14_L1_v0 a1 a2 a3 x31 x32 z s)) := by
  intro m
  induction m with
  | zero => intro x31 x32 z s r h; exact T.no h
  | succ m ih => intro x31 x32 z s r h; unfold F14_L1 at h; exact (T.br h (fun h34 h => (T.as h fun h35 h => (T.as h fun h36 h => (T.as h fun h37 h => (T.br h (fun h38 h => (T.br h (fun h39 h => (T.br h (fun h40 h => (T.no h)) (fun h40 h => (T.as h fun h41 h => (T.as h fun h42 h => (T.bd h fun r43 h44 h => (T.bd h fun r45 h46 h => (T.as h fun h47 h => (lpGo (E := EE) (Q := Q_F14_L1 a1 a2 a3 z r) (p := [Dt, Dt, Dt, Dt, .c 0, Dt, .c 1, Df, Df, Dt, Dt, .o (o_F56 r43), .c 0, .o (o_F56 r45), .c 0, Dt]) (cB h34 (cP h35 (cP h36 (cP h37 (cB h38 (cB (T.nt h39) (cP h40 (cP h41 (cP h42 (cP (F56_ok h44) (cP (F56_ok h46) (cP h47 c0)))))))))))) (fun s2 => F14_L1_v1_ok (a1 := a1) (s := s2) h) (by kernel_rfl)))))))))) (fun h39 h => (lpLf (E := EE) (Q := Q_F14_L1 a1 a2 a3 z) (p := [Dt, Dt, Dt, Dt, .c 0, Dt, .c 1, Dt]) (g := mkF14_L1_X0_w0 a1 a2 a3 (false, (([] : List AV) ++ ([(.agg [(.int .i64 (eI a2 (Int.toNat x31) 0)), (.int .i64 (eI a2 (Int.toNat x31) 1))])] : List AV))) z) h (cB h34 (cP h35 (cP h36 (cP h37 (cB h38 (cB (T.nt h39) c0)))))) rfl (fun s2 => Or.inl ⟨s2, rfl⟩) (by kernel_rfl))))) (fun h38 h => (T.br h (fun h48 h => (T.no h)) (fun h48 h => (T.as h fun h49 h => (T.as h fun h50 h => (T.bd h fun r51 h52 h => (T.bd h fun r53 h54 h => (T.as h fun h55 h => (lpGo (E := EE) (Q := Q_F14_L1 a1 a2 a3 z r) (p := [Dt, Dt, Dt, Dt, .c 0, Df, .c 2, Df, Dt, Dt, .o (o_F56 r51), .c 0, .o (o_F56 r53), .c 0, Dt]) (cB h34 (cP h35 (cP h36 (cP h37 (cB h38 (cP h48 (cP h49 (cP h50 (cP (F56_ok h52) (cP (F56_ok h54) (cP h55 c0))))))))))) (fun s2 => F14_L1_v1_ok (a1 := a1) (s := s2) h) (by kernel_rfl))))))))))))))) (fun h34 h => (lpLf (E := EE) (Q := Q_F14_L1 a1 a2 a3 z) (p := [Df]) (g := mkF14_L1_X0_w1 a1 a2 a3 x32 z) h (cB h34 c0) rfl (fun s2 => Or.inr (⟨x32, s2, rfl, rfl⟩)) (by kernel_rfl))))
def o_F14 (r : Bool × List AV × Bool × Int) : Out := .ret (.tup [(.agg [(.sl r.1 2 r.2.1 .no), (.bool r.2.2.1)]), (.int .i64 r.2.2.2)])
def F14 : Nat → Bool → List AV → Bool → Option (Bool × List AV × Bool × Int)
  | 0, _, _, _ => none
  | k + 1, a1, a2, a3 => (bif a3 then (bif (decide (((a2.length : Nat) : Int) < (1 : Int))) then (some (true, ([] : List AV), false, (2 : Int))) else (bif (decide ((200 : Int) < ((a2.length : Nat) : Int))) then (some (true, ([] : List AV), false, (2 : Int))) else (Option.bind (F53 k a1 a2) fun r7 => (asrt (AV.cleanL a2) (bif r7 then (some (true, ([] : List AV), false, (2 : Int))) else (Option.bind (F14_L1 k a2 a3 k (0 : Int) true ([] : List AV)) (fun r56 => (asrt (AV.cleanL r56.2) (some (r56.1, r56.2, a3, (0 : Int))))))))))) else (bif (decide (((a2.length : Nat) : Int) < (1 : Int))) then (some (true, ([] : List AV), false, (2 : Int))) else (bif (decide ((201 : Int) < ((a2.length : Nat) : Int))) then (some (true, ([] : List AV), false, (2 : Int))) else (Option.bind (F53 k a1 a2) fun r64 => (asrt (AV.cleanL a2) (bif r64 then (some (true, ([] : List AV), false, (2 : Int))) else (Option.bind (F14_L1 k a2 a3 k (0 : Int) true ([] : List AV)) (fun r68 => (asrt (AV.cleanL r68.2) (some (r68.1, r68.2, a3, (0 : Int))))))))))))
noncomputable def se_F14_1 (k : Nat) (a1 : Bool) (a2 : List AV) (a3 : Bool) (r7 : (Bool)) : St := stOf (oS EE k 14 bd_14 (st0 Tryz.f14 [(.sl a1 2 a2 .full), (.bool a3)]) [Dt, Df, .c 3, Df, .c 0, .o (o_F53 r7), Dt, .c 0, Df, .u 0, .u 0])
noncomputable def se_F14_2 (k : Nat) (a1 : Bool) (a2 : List AV) (a3 : Bool) (r64 : (Bool)) : St := stOf (oS EE k 14 bd_14 (st0 Tryz.f14 [(.sl a1 2 a2 .full), (.bool a3)]) [Df, Df, .c 3, Df, .c 0, .o (o_F53 r64), Dt, .c 0, Df, .u 0, .u 0])
theorem F14_ok : ∀ {n : Nat} {a1 : Bool} {a2 : List AV} {a3 : Bool} {r : Bool × List AV × Bool × Int}, F14 n a1 a2 a3 = some r → evF Tryz.prog CC n 14 [(.sl a1 2 a2 .full), (.bool a3)] = some (o_F14 r) := by
  intro n
  cases n with
  | zero => intro a1 a2 a3 r h; exact T.no h
  | succ k => intro a1 a2 a3 r h; unfold F14 at h; exact (T.br h (fun h4 h => (T.br h (fun h5 h => (fnLf (E := EE) h is_14 rfl [Dt, Dt, .c 8] (cB h4 (cB h5 c0)) (by kernel_rfl))) (fun h5 h => (T.br h (fun h6 h => (fnLf (E := EE) h is_14 rfl [Dt, Df, .c 3, Dt, .c 3] (cB h4 (cB h5 (cB h6 c0))) (by kernel_rfl))) (fun h6 h => (T.bd h fun r7 h8 h => (T.as h fun h9 h => (T.br h (fun h10 h => (fnLf (E := EE) h is_14 rfl [Dt, Df, .c 3, Df, .c 0, .o (o_F53 r7), Dt, .c 0, Dt, .c 0] (cB h4 (cB h5 (cB h6 (cP (T.an h9 rfl) (cP (F53_ok h8) (cB h10 c0)))))) (by kernel_rfl))) (fun h10 h => (T.bd h (fun r56 h57 h => (Or.elim (F14_L1_v0_ok (a1 := a1) (z := (litS [litB (blkG (se_F14_1 k a1 a2 a3 r7) 0), litB (blkG (se_F14_1 k a1 a2 a3 r7) 1)] [])) (s := (se_F14_1 k a1 a2 a3 r7)) h57) (fun q => Exists.elim q fun s58 e59 => (T.as h fun h61 h => (fnLf (E := EE) h is_14 rfl [Dt, Df, .c 3, Df, .c 0, .o (o_F53 r7), Dt, .c 0, Df, .u 0, .l (.exit 0, mkF14_L1_X0_w0 a1 a2 a3 r56 (litS [litB (blkG (se_F14_1 k a1 a2 a3 r7) 0), litB (blkG (se_F14_1 k a1 a2 a3 r7) 1)] []) s58), Dt] (cB h4 (cB h5 (cB h6 (cP (T.an h9 rfl) (cP (F53_ok h8) (cB h10 (cP e59 (cP (T.an (T.an h61 rfl) rfl) c0)))))))) (by kernel_rfl)))) (fun q => Exists.elim q fun r60 q => Exists.elim q fun s58 q => by obtain ⟨e, e59⟩ := q; subst e; exact (T.as h fun h61 h => (fnLf (E := EE) h is_14 rfl [Dt, Df, .c 3, Df, .c 0, .o (o_F53 r7), Dt, .c 0, Df, .u 0, .l (.exit 0, mkF14_L1_X0_w1 a1 a2 a3 r60 (litS [litB (blkG (se_F14_1 k a1 a2 a3 r7) 0), litB (blkG (se_F14_1 k a1 a2 a3 r7) 1)] []) s58), Dt] (cB h4 (cB h5 (cB h6 (cP (T.an h9 rfl) (cP (F53_ok h8) (cB h10 (cP e59 (cP (T.an (T.an h61 rfl) rfl) c0)))))))) (by kernel_rfl)))))))))))))))) (fun h4 h => (T.br h (fun h62 h => (fnLf (E := EE) h is_14 rfl [Df, Dt, .c 8] (cB h4 (cB h62 c0)) (by kernel_rfl))) (fun h62 h => (T.br h (fun h63 h => (fnLf (E := EE) h is_14 rfl [Df, Df, .c 3, Dt, .c 3] (cB h4 (cB h62 (cB h63 c0))) (by kernel_rfl))) (fun h63 h => (T.bd h fun r64 h65 h => (T.as h fun h66 h => (T.br h (fun h67 h => (fnLf (E := EE) h is_14 rfl [Df, Df, .c 3, Df, .c 0, .o (o_F53 r64), Dt, .c 0, Dt, .c 0] (cB h4 (cB h62 (cB h63 (cP (T.an h66 rfl) (cP (F53_ok h65) (cB h67 c0)))))) (by kernel_rfl))) (fun h67 h => (T.bd h (fun r68 h69 h => (Or.elim (F14_L1_v0_ok (a1 := a1) (z := (litS [litB (blkG (se_F14_2 k a1 a2 a3 r64) 0), litB (blkG (se_F14_2 k a1 a2 a3 r64) 1)] [])) (s := (se_F14_2 k a1 a2 a3 r64)) h69) (fun q => Exists.elim q fun s70 e71 => (T.as h fun h73 h => (fnLf (E := EE) h is_14 rfl [Df, Df, .c 3, Df, .c 0, .o (o_F53 r64), Dt, .c 0, Df, .u 0, .l (.exit 0, mkF14_L1_X0_w0 a1 a2 a3 r68 (litS [litB (blkG (se_F14_2 k a1 a2 a3 r64) 0), litB (blkG (se_F14_2 k a1 a2 a3 r64) 1)] []) s70), Dt] (cB h4 (cB h62 (cB h63 (cP (T.an h66 rfl) (cP (F53_ok h65) (cB h67 (cP e71 (cP (T.an (T.an h73 rfl) rfl) c0)))))))) (by kernel_rfl)))) (fun q => Exists.elim q fun r72 q => Exists.elim q fun s70 q => by obtain ⟨e, e71⟩ := q; subst e; exact (T.as h fun h73 h => (fnLf (E := EE) h is_14 rfl [Df, Df, .c 3, Df, .c 0, .o (o_F53 r64), Dt, .c 0, Df, .u 0, .l (.exit 0, mkF14_L1_X0_w1 a1 a2 a3 r72 (litS [litB (blkG (se_F14_2 k a1 a2 a3 r64) 0), litB (blkG (se_F14_2 k a1 a2 a3 r64) 1)] []) s70), Dt] (cB h4 (cB h62 (cB h63 (cP (T.an h66 rfl) (cP (F53_ok h65) (cB h67 (cP e71 (cP (T.an (T.an h73 rfl) rfl) c0)))))))) (by kernel_rfl)))))))))))))))))
noncomputable def bd_61 : Code := match Tryz.f61.body with | some c => c | none => .skip
theorem is_61 : FnIs Tryz.prog CC 61 Tryz.f61 bd_61 := ⟨by kernel_rfl, by kernel_rfl, by kernel_rfl⟩
-- fleuron/paths.segments
def o_F61 (r : Int) : Out := .ret (.int .i64 r)
def F61 : Nat → Bool → List AV → Bool → Option (Int)
  | 0, _, _, _ => none
  | k + 1, a1, a2, a3 => (some (w64 (((a2.length : Nat) : Int).tdiv (3 : Int))))
theorem F61_ok : ∀ {n : Nat} {a1 : Bool} {a2 : List AV} {a3 : Bool} {r : Int}, F61 n a1 a2 a3 = some r → evF Tryz.prog CC n 61 [(.agg [(.sl a1 2 a2 .no), (.bool a3)])] = some (o_F61 r) := by
  intro n
  cases n with
  | zero => intro a1 a2 a3 r h; exact T.no h
  | succ k => intro a1 a2 a3 r h; unfold F61 at h; exact (fnLf (E := EE) h is_61 rfl [.c 1] (c0) (by kernel_rfl))
noncomputable def bd_73 : Code := match Tryz.f73.body with | some c => c | none => .skip
theorem is_73 : FnIs Tryz.prog CC 73 Tryz.f73 bd_73 := ⟨by kernel_rfl, by kernel_rfl, by kernel_rfl⟩
-- fleuron/paths.Valid$1
def o_F73 (r : Bool) : Out := .ret (.bool r)
theorem F73_ok : ∀ {n : Nat} {a1 : Int} {a2 : Int} {r : Bool}, F54 n a1 a2 = some r → evF Tryz.prog CC n 73 [(.agg [(.int .i64 a1), (.int .i64 a2)])] = some (o_F73 r) := by
  intro n
  cases n with
  | zero => intro a1 a2 r h; exact T.no h
  | succ k => intro a1 a2 r h; unfold F54 at h; exact (T.bd h fun r3 h4 h => (fnLf (E := EE) h is_73 rfl [.o (o_F55 r3), .c 1] (cP (F55_ok h4) c0) (by kernel_rfl)))
-- slices.IndexFunc[[]fleuron/api.Point,fleuron/api.Point]
noncomputable def c_F87a_L1 : Code := Code.sub' bd_87 [1, 0, 1, 0, 0]
def mkF87a_L1_X0_w0 (a1 : Bool) (a2 : List AV) (r : Int) (z s : St) : St := { tm := ovr s 19 0 [(4, (.int .i64 r))], kb := 0, hp := [], nx := s.nx, lv := [], df := [] }
def mkF87a_L1_X1_w0 (a1 : Bool) (a2 : List AV) (r : Unit) (z s : St) : St := { tm := ovr s 19 0 [], kb := 0, hp := [], nx := s.nx, lv := [], df := [] }
def Q_F87a_L1 (a1 : Bool) (a2 : List AV) (z : St) (r : (Int) ⊕ (Unit)) (o : Option (Ex × St)) : Prop := match r with
  | (.inl r) => (∃ s, o = some (.ret, mkF87a_L1_X0_w0 a1 a2 r z s))
  | (.inr r) => (∃ s, o = some (.exit 0, mkF87a_L1_X1_w0 a1 a2 r z s))
def mkF87a_L1_v0 (a1 : Bool) (a2 : List AV) (x17 : Int) (z s : St) : St := { tm := ovr s 19 0 [(0, (.sl a1 2 a2 .no)), (1, (.fn (.func 73) [] [])), (7, (.int .i64 ((a2.length : Nat) : Int))), (8, (.int .i64 x17))], kb := 0, hp := [], nx := s.nx, lv := [], df := [] }
theorem F87a_L1_v0_ok {k : Nat} {a1 : Bool} {a2 : List AV} : ∀ {m : Nat} {x17 : Int} {z s : St} {r : (Int) ⊕ (Unit)}, F87_L1 k a2 m x17 = some r → Q_F87a_L1 a1 a2 z r (loopN (bEv Tryz.prog CC k 87 c_F87a_L1) m (mkF87a_L1_v0 a1 a2 x17 z s)) := by
  intro m
  induction m with
  | zero => intro x17 z s r h; exact T.no h
  | succ m ih => intro x17 z s r h; unfold F87_L1 at h; exact (T.br h (fun h18 h => (T.as h fun h19 h => (T.as h fun h20 h => (T.bd h fun r21 h22 h => (T.br h (fun h23 h => (lpLf (E := EE) (Q := Q_F87a_L1 a1 a2 z) (p := [Dt, Dt, Dt, .o (o_F73 r21), .c 0, Dt]) (g := mkF87a_L1_X0_w0 a1 a2 x17 z) h (cB h18 (cP h19 (cP h20 (cP (F73_ok h22) (cB h23 c0))))) rfl (fun s2 => ⟨s2, rfl⟩) (by kernel_rfl))) (fun h23 h => (lpGo (E := EE) (Q := Q_F87a_L1 a1 a2 z r) (p := [Dt, Dt, Dt, .o (o_F73 r21), .c 0, Df]) (cB h18 (cP h19 (cP h20 (cP (F73_ok h22) (cB h23 c0))))) (fun s2 => ih (s := s2) h) (by kernel_rfl)))))))) (fun h18 h => (lpLf (E := EE) (Q := Q_F87a_L1 a1 a2 z) (p := [Df]) (g := mkF87a_L1_X1_w0 a1 a2 () z) h (cB h18 c0) rfl (fun s2 => ⟨s2, rfl⟩) (by kernel_rfl))))
def o_F87a (r : Int) : Out := .ret (.int .i64 r)
noncomputable def se_F87a_1 (k : Nat) (a1 : Bool) (a2 : List AV) : St := stOf (oS EE k 87 bd_87 (st0 Tryz.f87 [(.sl a1 2 a2 .no), (.fn (.func 73) [] [])]) [.u 0, .u 0])
theorem F87a_ok : ∀ {n : Nat} {a1 : Bool} {a2 : List AV} {r : Int}, F87 n a1 a2 = some r → evF Tryz.prog CC n 87 [(.sl a1 2 a2 .no), (.fn (.func 73) [] [])] = some (o_F87a r) := by
  intro n
  cases n with
  | zero => intro a1 a2 r h; exact T.no h
  | succ k => intro a1 a2 r h; unfold F87 at h; exact (T.b2 h (fun r24 h25 h => ((fun q => Exists.elim q fun s26 e27 => (fnLf (E := EE) h is_87 rfl [.u 0, .l (.ret, mkF87a_L1_X0_w0 a1 a2 r24 (litS [] []) s26), .c 0] (cP e27 c0) (by kernel_rfl))) (F87a_L1_v0_ok (a1 := a1) (z := (litS [] [])) (s := (se_F87a_1 k a1 a2)) h25))) (fun r29 h30 h => ((fun q => Exists.elim q fun s31 e32 => (fnLf (E := EE) h is_87 rfl [.u 0, .l (.exit 0, mkF87a_L1_X1_w0 a1 a2 r29 (litS [] []) s31), .c 0] (cP e32 c0) (by kernel_rfl))) (F87a_L1_v0_ok (a1 := a1) (z := (litS [] [])) (s := (se_F87a_1 k a1 a2)) h30))))
-- slices.ContainsFunc[[]fleuron/api.Point,fleuron/api.Point]
def o_F53a (r : Bool) : Out := .ret (.bool r)
theorem F53a_ok : ∀ {n : Nat} {a1 : Bool} {a2 : List AV} {r : Bool}, F53 n a1 a2 = some r → evF Tryz.prog CC n 53 [(.sl a1 2 a2 .no), (.fn (.func 73) [] [])] = some (o_F53a r) := by
  intro n
  cases n with
  | zero => intro a1 a2 r h; exact T.no h
  | succ k => intro a1 a2 r h; unfold F53 at h; exact (T.bd h fun r3 h4 h => (T.as h fun h5 h => (fnLf (E := EE) h is_53 rfl [.o (o_F87a r3), Dt, .c 0] (cP (T.an h5 rfl) (cP (F87a_ok h4) c0)) (by kernel_rfl))))
noncomputable def bd_29 : Code := match Tryz.f29.body with | some c => c | none => .skip
theorem is_29 : FnIs Tryz.prog CC 29 Tryz.f29 bd_29 := ⟨by kernel_rfl, by kernel_rfl, by kernel_rfl⟩
-- fleuron/paths.Valid
def o_F29 (r : Bool) : Out := .ret (.bool r)
def F29 : Nat → Bool → List AV → Bool → Option (Bool)
  | 0, _, _, _ => none
  | k + 1, a1, a2, a3 => (bif a3 then (bif ((((a2.length : Nat) : Int).tmod (3 : Int)) != (0 : Int)) then (some false) else (bif (decide (((a2.length : Nat) : Int) < (3 : Int))) then (some false) else (Option.bind (F61 k a1 a2 a3) fun r7 => (asrt (AV.cleanL a2) (bif (decide ((200 : Int) < r7)) then (some false) else (Option.bind (F53 k a1 a2) fun r11 => (some (!r11)))))))) else (bif ((((a2.length : Nat) : Int).tmod (3 : Int)) != (1 : Int)) then (some false) else (Option.bind (F61 k a1 a2 a3) fun r14 => (asrt (AV.cleanL a2) (bif (decide ((200 : Int) < r14)) then (some false) else (Option.bind (F53 k a1 a2) fun r18 => (some (!r18))))))))
theorem F29_ok : ∀ {n : Nat} {a1 : Bool} {a2 : List AV} {a3 : Bool} {r : Bool}, F29 n a1 a2 a3 = some r → evF Tryz.prog CC n 29 [(.agg [(.sl a1 2 a2 .no), (.bool a3)])] = some (o_F29 r) := by
  intro n
  cases n with
  | zero => intro a1 a2 a3 r h; exact T.no h
  | succ k => intro a1 a2 a3 r h; unfold F29 at h; exact (T.br h (fun h4 h => (T.br h (fun h5 h => (fnLf (E := EE) h is_29 rfl [Dt, .c 3, Dt, .c 18] (cB h4 (cB h5 c0)) (by kernel_rfl))) (fun h5 h => (T.br h (fun h6 h => (fnLf (E := EE) h is_29 rfl [Dt, .c 3, Df, .c 3, Dt, .c 13] (cB h4 (cB h5 (cB h6 c0))) (by kernel_rfl))) (fun h6 h => (T.bd h fun r7 h8 h => (T.as h fun h9 h => (T.br h (fun h10 h => (fnLf (E := EE) h is_29 rfl [Dt, .c 3, Df, .c 3, Df, .c 2, Df, .c 6, .o (o_F61 r7), Dt, .c 1, Dt, .c 0] (cB h4 (cB h5 (cB h6 (cB (T.nt h4) (cP (T.an (T.an h9 rfl) rfl) (cP (F61_ok h8) (cB h10 c0))))))) (by kernel_rfl))) (fun h10 h => (T.bd h fun r11 h12 h => (fnLf (E := EE) h is_29 rfl [Dt, .c 3, Df, .c 3, Df, .c 2, Df, .c 6, .o (o_F61 r7), Dt, .c 1, Df, .o (o_F53a r11), Dt, .c 0] (cB h4 (cB h5 (cB h6 (cB (T.nt h4) (cP (T.an (T.an h9 rfl) rfl) (cP (F61_ok h8) (cB h10 (cP (T.an h9 rfl) (cP (F53a_ok h12) c0))))))))) (by kernel_rfl)))))))))))) (fun h4 h => (T.br h (fun h13 h => (fnLf (E := EE) h is_29 rfl [Df, .c 10, Dt, .c 5, Dt, .c 4] (cB h4 (cB (T.nt h4) (cB h13 c0))) (by kernel_rfl))) (fun h13 h => (T.bd h fun r14 h15 h => (T.as h fun h16 h => (T.br h (fun h17 h => (fnLf (E := EE) h is_29 rfl [Df, .c 10, Dt, .c 5, Df, .c 0, .o (o_F61 r14), Dt, .c 1, Dt, .c 0] (cB h4 (cB (T.nt h4) (cB h13 (cP (T.an (T.an h16 rfl) rfl) (cP (F61_ok h15) (cB h17 c0)))))) (by kernel_rfl))) (fun h17 h => (T.bd h fun r18 h19 h => (fnLf (E := EE) h is_29 rfl [Df, .c 10, Dt, .c 5, Df, .c 0, .o (o_F61 r14), Dt, .c 1, Df, .o (o_F53a r18), Dt, .c 0] (cB h4 (cB (T.nt h4) (cB h13 (cP (T.an (T.an h16 rfl) rfl) (cP (F61_ok h15) (cB h17 (cP (T.an h16 rfl) (cP (F53a_ok h19) c0)))))))) (by kernel_rfl)))))))))))
noncomputable def bd_108 : Code := match Tryz.f108.body with | some c => c | none => .skip
theorem is_108 : FnIs Tryz.prog CC 108 Tryz.f108 bd_108 := ⟨by kernel_rfl, by kernel_rfl, by kernel_rfl⟩
-- fleuron/fix.fixed
noncomputable def c_F108_L1 : Code := Code.sub' bd_108 [1, 0, 1, 0, 0]
def mkF108_L1_X0_w0 (a1 : Bool) (a2 : List AV) (r : Unit) (z s : St) : St := { tm := ovr s 18 0 [(2, (.bool false))], kb := 0, hp := [], nx := s.nx, lv := [], df := [] }
def mkF108_L1_X1_w0 (a1 : Bool) (a2 : List AV) (r : Unit) (z s : St) : St := { tm := ovr s 18 0 [], kb := 0, hp := [], nx := s.nx, lv := [], df := [] }
def Q_F108_L1 (a1 : Bool) (a2 : List AV) (z : St) (r : (Unit) ⊕ (Unit)) (o : Option (Ex × St)) : Prop := match r with
  | (.inl r) => (∃ s, o = some (.ret, mkF108_L1_X0_w0 a1 a2 r z s))
  | (.inr r) => (∃ s, o = some (.exit 0, mkF108_L1_X1_w0 a1 a2 r z s))
def F108_L1 (k : Nat) (a2 : List AV) : Nat → Int → Option ((Unit) ⊕ (Unit))
  | 0, _ => none
  | m + 1, x9 => (bif (decide (x9 < ((a2.length : Nat) : Int))) then (asrt (decide (0 ≤ x9 ∧ x9 < ((a2.length : Nat) : Int))) (asrt (okE false [.int .i64] a2 (Int.toNat x9)) (bif (decide ((AV.intOf (List.getD a2 (Int.toNat x9) .undef)) < (-2147483647 : Int))) then (some (.inl ())) else (bif (decide ((2147483647 : Int) < (AV.intOf (List.getD a2 (Int.toNat x9) .undef)))) then (some (.inl ())) else (F108_L1 k a2 m (w64 (x9 + (1 : Int)))))))) else (some (.inr ())))
def mkF108_L1_v0 (a1 : Bool) (a2 : List AV) (x9 : Int) (z s : St) : St := { tm := ovr s 18 0 [(5, (.sl a1 1 a2 .full)), (6, (.int .i64 ((a2.length : Nat) : Int))), (7, (.int .i64 x9))], kb := 0, hp := [], nx := s.nx, lv := [], df := [] }
theorem F108_L1_v0_ok {k : Nat} {a1 : Bool} {a2 : List AV} : ∀ {m : Nat} {x9 : Int} {z s : St} {r : (Unit) ⊕ (Unit)}, F108_L1 k a2 m x9 = some r → Q_F108_L1 a1 a2 z r (loopN (bEv Tryz.prog CC k 108 c_F108_L1) m (mkF108_L1_v0 a1 a2 x9 z s)) := by
  intro m
  induction m with
  | zero => intro x9 z s r h; exact T.no h
  | succ m ih => intro x9 z s r h; unfold F108_L1 at h; exact (T.br h (fun h10 h => (T.as h fun h11 h => (T.as h fun h12 h => (T.br h (fun h13 h => (lpLf (E := EE) (Q := Q_F108_L1 a1 a2 z) (p := [Dt, Dt, Dt, Dt, .c 2]) (g := mkF108_L1_X0_w0 a1 a2 () z) h (cB h10 (cP h11 (cP h12 (cB h13 c0)))) rfl (fun s2 => ⟨s2, rfl⟩) (by kernel_rfl))) (fun h13 h => (T.br h (fun h14 h => (lpLf (E := EE) (Q := Q_F108_L1 a1 a2 z) (p := [Dt, Dt, Dt, Df, .c 1, Dt]) (g := mkF108_L1_X0_w0 a1 a2 () z) h (cB h10 (cP h11 (cP h12 (cB h13 (cB h14 c0))))) rfl (fun s2 => ⟨s2, rfl⟩) (by kernel_rfl))) (fun h14 h => (lpGo (E := EE) (Q := Q_F108_L1 a1 a2 z r) (p := [Dt, Dt, Dt, Df, .c 1, Df]) (cB h10 (cP h11 (cP h12 (cB h13 (cB h14 c0))))) (fun s2 => ih (s := s2) h) (by kernel_rfl))))))))) (fun h10 h => (lpLf (E := EE) (Q := Q_F108_L1 a1 a2 z) (p := [Df]) (g := mkF108_L1_X1_w0 a1 a2 () z) h (cB h10 c0) rfl (fun s2 => ⟨s2, rfl⟩) (by kernel_rfl))))
def o_F108 (r : Bool) : Out := .ret (.bool r)
def F108 : Nat → Bool → List AV → Option (Bool)
  | 0, _, _ => none
  | k + 1, a1, a2 => (Option.bind (F108_L1 k a2 k (0 : Int)) (Sum.elim (fun r15 => (some false)) (fun r20 => (some true))))
noncomputable def se_F108_1 (k : Nat) (a1 : Bool) (a2 : List AV) : St := stOf (oS EE k 108 bd_108 (st0 Tryz.f108 [(.sl a1 1 a2 .full)]) [.u 0, .u 0])
theorem F108_ok : ∀ {n : Nat} {a1 : Bool} {a2 : List AV} {r : Bool}, F108 n a1 a2 = some r → evF Tryz.prog CC n 108 [(.sl a1 1 a2 .full)] = some (o_F108 r) := by
  intro n
  cases n with
  | zero => intro a1 a2 r h; exact T.no h
  | succ k => intro a1 a2 r h; unfold F108 at h; exact (T.b2 h (fun r15 h16 h => ((fun q => Exists.elim q fun s17 e18 => (fnLf (E := EE) h is_108 rfl [.u 0, .l (.ret, mkF108_L1_X0_w0 a1 a2 r15 (litS [] []) s17), .c 0] (cP e18 c0) (by kernel_rfl))) (F108_L1_v0_ok (a1 := a1) (z := (litS [] [])) (s := (se_F108_1 k a1 a2)) h16))) (fun r20 h21 h => ((fun q => Exists.elim q fun s22 e23 => (fnLf (E := EE) h is_108 rfl [.u 0, .l (.exit 0, mkF108_L1_X1_w0 a1 a2 r20 (litS [] []) s22), .c 0] (cP e23 c0) (by kernel_rfl))) (F108_L1_v0_ok (a1 := a1) (z := (litS [] [])) (s := (se_F108_1 k a1 a2)) h21))))
noncomputable def bd_110 : Code := match Tryz.f110.body with | some c => c | none => .skip
theorem is_110 : FnIs Tryz.prog CC 110 Tryz.f110 bd_110 := ⟨by kernel_rfl, by kernel_rfl, by kernel_rfl⟩
-- fleuron/fix.power
noncomputable def c_F110_L1 : Code := Code.sub' bd_110 [1, 1, 0, 1, 0, 0]
def mkF110_L1_X0_w0 (a1 : Int) (r : Int) (z s : St) : St := { tm := ovr s 11 0 [(3, (.int .i64 r))], kb := 0, hp := [], nx := s.nx, lv := [], df := [] }
def Q_F110_L1 (a1 : Int) (z : St) (r : (Int)) (o : Option (Ex × St)) : Prop := (∃ s, o = some (.exit 0, mkF110_L1_X0_w0 a1 r z s))
def F110_L1 (k : Nat) (a1 : Int) : Nat → Int → Int → Option ((Int))
  | 0, _, _ => none
  | m + 1, x7, x8 => (bif (decide (x8 < a1)) then (F110_L1 k a1 m (w64 (x7 * (10 : Int))) (w64 (x8 + (1 : Int)))) else (some x7))
def mkF110_L1_v0 (a1 : Int) (x7 : Int) (x8 : Int) (z s : St) : St := { tm := ovr s 11 0 [(3, (.int .i64 x7)), (4, (.int .i64 a1)), (5, (.int .i64 x8))], kb := 0, hp := [], nx := s.nx, lv := [], df := [] }
theorem F110_L1_v0_ok {k : Nat} {a1 : Int} : ∀ {m : Nat} {x7 : Int} {x8 : Int} {z s : St} {r : (Int)}, F110_L1 k a1 m x7 x8 = some r → Q_F110_L1 a1 z r (loopN (bEv Tryz.prog CC k 110 c_F110_L1) m (mkF110_L1_v0 a1 x7 x8 z s)) := by
  intro m
  induction m with
  | zero => intro x7 x8 z s r h; exact T.no h
  | succ m ih => intro x7 x8 z s r h; unfold F110_L1 at h; exact (T.br h (fun h9 h => (lpGo (E := EE) (Q := Q_F110_L1 a1 z r) (p := [Dt]) (cB h9 c0) (fun s2 => ih (s := s2) h) (by kernel_rfl))) (fun h9 h => (lpLf (E := EE) (Q := Q_F110_L1 a1 z) (p := [Df]) (g := mkF110_L1_X0_w0 a1 x7 z) h (cB h9 c0) rfl (fun s2 => ⟨s2, rfl⟩) (by kernel_rfl))))
def o_F110 (r : Int) : Out := .ret (.int .i64 r)
def F110 : Nat → Int → Option (Int)
  | 0, _ => none
  | k + 1, a1 => (Option.bind (F110_L1 k a1 k (1 : Int) (0 : Int)) (fun r10 => (some r10)))
noncomputable def se_F110_1 (k : Nat) (a1 : Int) : St := stOf (oS EE k 110 bd_110 (st0 Tryz.f110 [(.int .i64 a1)]) [.u 0, .u 0])
theorem F110_ok : ∀ {n : Nat} {a1 : Int} {r : Int}, F110 n a1 = some r → evF Tryz.prog CC n 110 [(.int .i64 a1)] = some (o_F110 r) := by
  intro n
  cases n with
  | zero => intro a1 r h; exact T.no h
  | succ k => intro a1 r h; unfold F110 at h; exact (T.bd h (fun r10 h11 h => ((fun q => Exists.elim q fun s12 e13 => (fnLf (E := EE) h is_110 rfl [.u 0, .l (.exit 0, mkF110_L1_X0_w0 a1 r10 (litS [] []) s12), .c 0] (cP e13 c0) (by kernel_rfl))) (F110_L1_v0_ok (z := (litS [] [])) (s := (se_F110_1 k a1)) h11))))
noncomputable def bd_90 : Code := match Tryz.f90.body with | some c => c | none => .skip
theorem is_90 : FnIs Tryz.prog CC 90 Tryz.f90 bd_90 := ⟨by kernel_rfl, by kernel_rfl, by kernel_rfl⟩
-- fleuron/fix.Text
noncomputable def c_F90_L2 : Code := Code.sub' bd_90 [1, 1, 1, 1, 1, 1, 1, 1, 0, 0, 0, 0, 1, 1, 1, 0, 1, 0, 0]
def mkF90_L2_X0_w0 (a1 : Int) (r6 : (List UInt8)) (r11 : (Int)) (r : Int) (z s : St) : St := { tm := ovr s 91 0 [(5, (.str (([45] : List UInt8) ++ r6))), (6, (.int .i64 ((w64 (0 - a1)).tmod (65536 : Int)))), (7, (.int .i64 (1 : Int))), (10, (.int .i64 r))], kb := 0, hp := [], nx := s.nx, lv := [], df := [] }
def Q_F90_L2 (a1 : Int) (r6 : (List UInt8)) (r11 : (Int)) (z : St) (r : (Int)) (o : Option (Ex × St)) : Prop := (∃ s, o = some (.exit 2, mkF90_L2_X0_w0 a1 r6 r11 r z s))
def F90_L2 (k : Nat) (a1 : Int) (r11 : (Int)) : Nat → Int → Int → Option ((Int))
  | 0, _, _ => none
  | m + 1, x28, x29 => (bif (decide (x29 ≤ (w64 ((w64 ((w64 (((w64 (0 - a1)).tmod (65536 : Int)) * r11)).tdiv (65536 : Int))) + (1 : Int))))) then (bif (decide (x29 < r11)) then (Option.bind (F56 k (w64 (x29 * (65536 : Int))) r11) fun r32 => (bif (r32 == ((w64 (0 - a1)).tmod (65536 : Int))) then (bif (decide (x28 < (0 : Int))) then (F90_L2 k a1 r11 m x29 (w64 (x29 + (1 : Int)))) else (bif (decide ((w64 ((w64 (x29 * (65536 : Int))) - (w64 (((w64 (0 - a1)).tmod (65536 : Int)) * r11)))) < (w64 ((w64 (((w64 (0 - a1)).tmod (65536 : Int)) * r11)) - (w64 (x28 * (65536 : Int))))))) then (F90_L2 k a1 r11 m x29 (w64 (x29 + (1 : Int)))) else (F90_L2 k a1 r11 m x28 (w64 (x29 + (1 : Int)))))) else (F90_L2 k a1 r11 m x28 (w64 (x29 + (1 : Int)))))) else (some x28)) else (some x28))
def mkF90_L2_v0 (a1 : Int) (r6 : (List UInt8)) (r11 : (Int)) (x28 : Int) (x29 : Int) (z s : St) : St := { tm := ovr s 91 0 [(5, (.str (([45] : List UInt8) ++ r6))), (6, (.int .i64 ((w64 (0 - a1)).tmod (65536 : Int)))), (7, (.int .i64 (1 : Int))), (8, (.int .i64 r11)), (9, (.int .i64 (w64 ((w64 (((w64 (0 - a1)).tmod (65536 : Int)) * r11)).tdiv (65536 : Int))))), (10, (.int .i64 x28)), (11, (.int .i64 x29))], kb := 0, hp := [], nx := s.nx, lv := [], df := [] }
theorem F90_L2_v0_ok {k : Nat} {a1 : Int} {r6 : (List UInt8)} {r11 : (Int)} : ∀ {m : Nat} {x28 : Int} {x29 : Int} {z s : St} {r : (Int)}, F90_L2 k a1 r11 m x28 x29 = some r → Q_F90_L2 a1 r6 r11 z r (loopN (bEv Tryz.prog CC k 90 c_F90_L2) m (mkF90_L2_v0 a1 r6 r11 x28 x29 z s)) := by
  intro m
  induction m with
  | zero => intro x28 x29 z s r h; exact T.no h
  | succ m ih => intro x28 x29 z s r h; unfold F90_L2 at h; exact (T.br h (fun h30 h => (T.br h (fun h31 h => (T.bd h fun r32 h33 h => (T.br h (fun h34 h => (T.br h (fun h35 h => (lpGo (E := EE) (Q := Q_F90_L2 a1 r6 r11 z r) (p := [Dt, .c 2, Dt, .o (o_F56 r32), .c 0, Dt, .c 1, Dt, .c 15]) (cB h30 (cB h31 (cP (F56_ok h33) (cB h34 (cB h35 c0))))) (fun s2 => ih (s := s2) h) (by kernel_rfl))) (fun h35 h => (T.br h (fun h36 h => (lpGo (E := EE) (Q := Q_F90_L2 a1 r6 r11 z r) (p := [Dt, .c 2, Dt, .o (o_F56 r32), .c 0, Dt, .c 1, Df, .c 14, Dt]) (cB h30 (cB h31 (cP (F56_ok h33) (cB h34 (cB h35 (cB h36 c0)))))) (fun s2 => ih (s := s2) h) (by kernel_rfl))) (fun h36 h => (lpGo (E := EE) (Q := Q_F90_L2 a1 r6 r11 z r) (p := [Dt, .c 2, Dt, .o (o_F56 r32), .c 0, Dt, .c 1, Df, .c 14, Df]) (cB h30 (cB h31 (cP (F56_ok h33) (cB h34 (cB h35 (cB h36 c0)))))) (fun s2 => ih (s := s2) h) (by kernel_rfl))))))) (fun h34 h => (lpGo (E := EE) (Q := Q_F90_L2 a1 r6 r11 z r) (p := [Dt, .c 2, Dt, .o (o_F56 r32), .c 0, Df, .c 17]) (cB h30 (cB h31 (cP (F56_ok h33) (cB h34 c0)))) (fun s2 => ih (s := s2) h) (by kernel_rfl)))))) (fun h31 h => (lpLf (E := EE) (Q := Q_F90_L2 a1 r6 r11 z) (p := [Dt, .c 2, Df]) (g := mkF90_L2_X0_w0 a1 r6 r11 x28 z) h (cB h30 (cB h31 c0)) rfl (fun s2 => ⟨s2, rfl⟩) (by kernel_rfl))))) (fun h30 h => (lpLf (E := EE) (Q := Q_F90_L2 a1 r6 r11 z) (p := [Df, .c 3]) (g := mkF90_L2_X0_w0 a1 r6 r11 x28 z) h (cB h30 c0) rfl (fun s2 => ⟨s2, rfl⟩) (by kernel_rfl))))
noncomputable def c_F90_L3 : Code := Code.sub' bd_90 [1, 1, 1, 1, 1, 1, 1, 1, 0, 0, 0, 0, 1, 1, 1, 0, 1, 0, 0]
def mkF90_L3_X0_w0 (a1 : Int) (r6 : (List UInt8)) (x50 : Int) (r51 : (Int)) (r : Int) (z s : St) : St := { tm := ovr s 91 0 [(5, (.str (([45] : List UInt8) ++ r6))), (6, (.int .i64 ((w64 (0 - a1)).tmod (65536 : Int)))), (7, (.int .i64 x50)), (10, (.int .i64 r))], kb := 0, hp := [], nx := s.nx, lv := [], df := [] }
def Q_F90_L3 (a1 : Int) (r6 : (List UInt8)) (x50 : Int) (r51 : (Int)) (z : St) (r : (Int)) (o : Option (Ex × St)) : Prop := (∃ s, o = some (.exit 2, mkF90_L3_X0_w0 a1 r6 x50 r51 r z s))
def F90_L3 (k : Nat) (a1 : Int) (r51 : (Int)) : Nat → Int → Int → Option ((Int))
  | 0, _, _ => none
  | m + 1, x68, x69 => (bif (decide (x69 ≤ (w64 ((w64 ((w64 (((w64 (0 - a1)).tmod (65536 : Int)) * r51)).tdiv (65536 : Int))) + (1 : Int))))) then (bif (decide (x69 < r51)) then (Option.bind (F56 k (w64 (x69 * (65536 : Int))) r51) fun r72 => (bif (r72 == ((w64 (0 - a1)).tmod (65536 : Int))) then (bif (decide (x68 < (0 : Int))) then (F90_L3 k a1 r51 m x69 (w64 (x69 + (1 : Int)))) else (bif (decide ((w64 ((w64 (x69 * (65536 : Int))) - (w64 (((w64 (0 - a1)).tmod (65536 : Int)) * r51)))) < (w64 ((w64 (((w64 (0 - a1)).tmod (65536 : Int)) * r51)) - (w64 (x68 * (65536 : Int))))))) then (F90_L3 k a1 r51 m x69 (w64 (x69 + (1 : Int)))) else (F90_L3 k a1 r51 m x68 (w64 (x69 + (1 : Int)))))) else (F90_L3 k a1 r51 m x68 (w64 (x69 + (1 : Int)))))) else (some x68)) else (some x68))
def mkF90_L3_v0 (a1 : Int) (r6 : (List UInt8)) (x50 : Int) (r51 : (Int)) (x68 : Int) (x69 : Int) (z s : St) : St := { tm := ovr s 91 0 [(5, (.str (([45] : List UInt8) ++ r6))), (6, (.int .i64 ((w64 (0 - a1)).tmod (65536 : Int)))), (7, (.int .i64 x50)), (8, (.int .i64 r51)), (9, (.int .i64 (w64 ((w64 (((w64 (0 - a1)).tmod (65536 : Int)) * r51)).tdiv (65536 : Int))))), (10, (.int .i64 x68)), (11, (.int .i64 x69))], kb := 0, hp := [], nx := s.nx, lv := [], df := [] }
theorem F90_L3_v0_ok {k : Nat} {a1 : Int} {r6 : (List UInt8)} {x50 : Int} {r51 : (Int)} : ∀ {m : Nat} {x68 : Int} {x69 : Int} {z s : St} {r : (Int)}, F90_L3 k a1 r51 m x68 x69 = some r → Q_F90_L3 a1 r6 x50 r51 z r (loopN (bEv Tryz.prog CC k 90 c_F90_L3) m (mkF90_L3_v0 a1 r6 x50 r51 x68 x69 z s)) := by
  intro m
  induction m with
  | zero => intro x68 x69 z s r h; exact T.no h
  | succ m ih => intro x68 x69 z s r h; unfold F90_L3 at h; exact (T.br h (fun h70 h => (T.br h (fun h71 h => (T.bd h fun r72 h73 h => (T.br h (fun h74 h => (T.br h (fun h75 h => (lpGo (E := EE) (Q := Q_F90_L3 a1 r6 x50 r51 z r) (p := [Dt, .c 2, Dt, .o (o_F56 r72), .c 0, Dt, .c 1, Dt, .c 15]) (cB h70 (cB h71 (cP (F56_ok h73) (cB h74 (cB h75 c0))))) (fun s2 => ih (s := s2) h) (by kernel_rfl))) (fun h75 h => (T.br h (fun h76 h => (lpGo (E := EE) (Q := Q_F90_L3 a1 r6 x50 r51 z r) (p := [Dt, .c 2, Dt, .o (o_F56 r72), .c 0, Dt, .c 1, Df, .c 14, Dt]) (cB h70 (cB h71 (cP (F56_ok h73) (cB h74 (cB h75 (cB h76 c0)))))) (fun s2 => ih (s := s2) h) (by kernel_rfl))) (fun h76 h => (lpGo (E := EE) (Q := Q_F90_L3 a1 r6 x50 r51 z r) (p := [Dt, .c 2, Dt, .o (o_F56 r72), .c 0, Dt, .c 1, Df, .c 14, Df]) (cB h70 (cB h71 (cP (F56_ok h73) (cB h74 (cB h75 (cB h76 c0)))))) (fun s2 => ih (s := s2) h) (by kernel_rfl))))))) (fun h74 h => (lpGo (E := EE) (Q := Q_F90_L3 a1 r6 x50 r51 z r) (p := [Dt, .c 2, Dt, .o (o_F56 r72), .c 0, Df, .c 17]) (cB h70 (cB h71 (cP (F56_ok h73) (cB h74 c0)))) (fun s2 => ih (s := s2) h) (by kernel_rfl)))))) (fun h71 h => (lpLf (E := EE) (Q := Q_F90_L3 a1 r6 x50 r51 z) (p := [Dt, .c 2, Df]) (g := mkF90_L3_X0_w0 a1 r6 x50 r51 x68 z) h (cB h70 (cB h71 c0)) rfl (fun s2 => ⟨s2, rfl⟩) (by kernel_rfl))))) (fun h70 h => (lpLf (E := EE) (Q := Q_F90_L3 a1 r6 x50 r51 z) (p := [Df, .c 3]) (g := mkF90_L3_X0_w0 a1 r6 x50 r51 x68 z) h (cB h70 c0) rfl (fun s2 => ⟨s2, rfl⟩) (by kernel_rfl))))
noncomputable def c_F90_L1 : Code := Code.sub' bd_90 [1, 1, 1, 1, 1, 1, 1, 1, 0, 0]
def mkF90_L1_X0_w0 (a1 : Int) (r6 : (List UInt8)) (r : List UInt8) (z s : St) : St := { tm := ovr s 91 0 [(2, (.str r)), (3, (.int .i64 (0 : Int)))], kb := 0, hp := [], nx := s.nx, lv := [], df := [] }
def Q_F90_L1 (a1 : Int) (r6 : (List UInt8)) (z : St) (r : (List UInt8)) (o : Option (Ex × St)) : Prop := (∃ s, o = some (.ret, mkF90_L1_X0_w0 a1 r6 r z s))
def F90_L1 (k : Nat) (a1 : Int) (r6 : (List UInt8)) : Nat → Int → Option ((List UInt8))
  | 0, _ => none
  | m + 1, x50 => (Option.bind (F110 k x50) fun r51 => (Option.bind (F90_L3 k a1 r51 k (-1 : Int) (w64 ((w64 (((w64 (0 - a1)).tmod (65536 : Int)) * r51)).tdiv (65536 : Int)))) (fun r77 => (bif (decide ((0 : Int) ≤ r77)) then (Option.bind (X109 k r77) fun r83 => (asrt (decide ((([45] : List UInt8) ++ r6).length + 1 < 2 ^ 62)) (Option.bind (X111 k ([48] : List UInt8) (w64 (x50 - ((r83.length : Nat) : Int)))) fun r86 => (asrt (decide (((([45] : List UInt8) ++ r6) ++ ([46] : List UInt8)).length + r86.length < 2 ^ 62)) (asrt (decide ((((([45] : List UInt8) ++ r6) ++ ([46] : List UInt8)) ++ r86).length + r83.length < 2 ^ 62)) (some ((((([45] : List UInt8) ++ r6) ++ ([46] : List UInt8)) ++ r86) ++ r83))))))) else (F90_L1 k a1 r6 m (w64 (x50 + (1 : Int))))))))
def mkF90_L1_v0 (a1 : Int) (r6 : (List UInt8)) (x50 : Int) (z s : St) : St := { tm := ovr s 91 0 [(5, (.str (([45] : List UInt8) ++ r6))), (6, (.int .i64 ((w64 (0 - a1)).tmod (65536 : Int)))), (7, (.int .i64 x50))], kb := 0, hp := [], nx := s.nx, lv := [], df := [] }
noncomputable def se_F90_2 (k : Nat) (a1 : Int) (r6 : (List UInt8)) (r51 : (Int)) (x50 : Int) (z : St) (s : St) : St := stOf (oS EE k 90 c_F90_L1 (mkF90_L1_v0 a1 r6 x50 z s) [.o (o_F110 r51), .c 1, .u 0, .u 0])
theorem F90_L1_v0_ok {k : Nat} {a1 : Int} {r6 : (List UInt8)} : ∀ {m : Nat} {x50 : Int} {z s : St} {r : (List UInt8)}, F90_L1 k a1 r6 m x50 = some r → Q_F90_L1 a1 r6 z r (loopN (bEv Tryz.prog CC k 90 c_F90_L1) m (mkF90_L1_v0 a1 r6 x50 z s)) := by
  intro m
  induction m with
  | zero => intro x50 z s r h; exact T.no h
  | succ m ih => intro x50 z s r h; unfold F90_L1 at h; exact (T.bd h fun r51 h52 h => (T.bd h (fun r77 h78 h => ((fun q => Exists.elim q fun s79 e80 => (T.br h (fun h82 h => (T.bd h fun r83 h84 h => (T.as h fun h85 h => (T.bd h fun r86 h87 h => (T.as h fun h88 h => (T.as h fun h89 h => (lpLf (E := EE) (Q := Q_F90_L1 a1 r6 z) (p := [.o (o_F110 r51), .c 1, .u 0, .l (.exit 2, mkF90_L3_X0_w0 a1 r6 x50 r51 r77 (litS [] []) s79), Dt, .o (o_X109 r83), .c 0, Dt, .o (o_X111 r86), .c 0, Dt, Dt]) (g := mkF90_L1_X0_w0 a1 r6 ((((([45] : List UInt8) ++ r6) ++ ([46] : List UInt8)) ++ r86) ++ r83) z) h (cP (F110_ok h52) (cP e80 (cB h82 (cP (X109_ok h84) (cP h85 (cP (X111_ok h87) (cP h88 (cP h89 c0)))))))) rfl (fun s2 => ⟨s2, rfl⟩) (by kernel_rfl)))))))) (fun h82 h => (lpGo (E := EE) (Q := Q_F90_L1 a1 r6 z r) (p := [.o (o_F110 r51), .c 1, .u 0, .l (.exit 2, mkF90_L3_X0_w0 a1 r6 x50 r51 r77 (litS [] []) s79), Df]) (cP (F110_ok h52) (cP e80 (cB h82 c0))) (fun s2 => ih (s := s2) h) (by kernel_rfl))))) (F90_L3_v0_ok (r6 := r6) (x50 := x50) (z := (litS [] [])) (s := (se_F90_2 k a1 r6 r51 x50 z s)) h78)))))
noncomputable def c_F90_L5 : Code := Code.sub' bd_90 [1, 1, 1, 1, 1, 1, 1, 1, 0, 0, 0, 0, 1, 1, 1, 0, 1, 0, 0]
def mkF90_L5_X0_w0 (a1 : Int) (r95 : (List UInt8)) (r100 : (Int)) (r : Int) (z s : St) : St := { tm := ovr s 91 0 [(5, (.str (([] : List UInt8) ++ r95))), (6, (.int .i64 (a1.tmod (65536 : Int)))), (7, (.int .i64 (1 : Int))), (10, (.int .i64 r))], kb := 0, hp := [], nx := s.nx, lv := [], df := [] }
def Q_F90_L5 (a1 : Int) (r95 : (List UInt8)) (r100 : (Int)) (z : St) (r : (Int)) (o : Option (Ex × St)) : Prop := (∃ s, o = some (.exit 2, mkF90_L5_X0_w0 a1 r95 r100 r z s))
def F90_L5 (k : Nat) (a1 : Int) (r100 : (Int)) : Nat → Int → Int → Option ((Int))
  | 0, _, _ => none
  | m + 1, x117, x118 => (bif (decide (x118 ≤ (w64 ((w64 ((w64 ((a1.tmod (65536 : Int)) * r100)).tdiv (65536 : Int))) + (1 : Int))))) then (bif (decide (x118 < r100)) then (Option.bind (F56 k (w64 (x118 * (65536 : Int))) r100) fun r121 => (bif (r121 == (a1.tmod (65536 : Int))) then (bif (decide (x117 < (0 : Int))) then (F90_L5 k a1 r100 m x118 (w64 (x118 + (1 : Int)))) else (bif (decide ((w64 ((w64 (x118 * (65536 : Int))) - (w64 ((a1.tmod (65536 : Int)) * r100)))) < (w64 ((w64 ((a1.tmod (65536 : Int)) * r100)) - (w64 (x117 * (65536 : Int))))))) then (F90_L5 k a1 r100 m x118 (w64 (x118 + (1 : Int)))) else (F90_L5 k a1 r100 m x117 (w64 (x118 + (1 : Int)))))) else (F90_L5 k a1 r100 m x117 (w64 (x118 + (1 : Int)))))) else (some x117)) else (some x117))
def mkF90_L5_v0 (a1 : Int) (r95 : (List UInt8)) (r100 : (Int)) (x117 : Int) (x118 : Int) (z s : St) : St := { tm := ovr s 91 0 [(5, (.str (([] : List UInt8) ++ r95))), (6, (.int .i64 (a1.tmod (65536 : Int)))), (7, (.int .i64 (1 : Int))), (8, (.int .i64 r100)), (9, (.int .i64 (w64 ((w64 ((a1.tmod (65536 : Int)) * r100)).tdiv (65536 : Int))))), (10, (.int .i64 x117)), (11, (.int .i64 x118))], kb := 0, hp := [], nx := s.nx, lv := [], df := [] }
theorem F90_L5_v0_ok {k : Nat} {a1 : Int} {r95 : (List UInt8)} {r100 : (Int)} : ∀ {m : Nat} {x117 : Int} {x118 : Int} {z s : St} {r : (Int)}, F90_L5 k a1 r100 m x117 x118 = some r → Q_F90_L5 a1 r95 r100 z r (loopN (bEv Tryz.prog CC k 90 c_F90_L5) m (mkF90_L5_v0 a1 r95 r100 x117 x118 z s)) := by
  intro m
  induction m with
  | zero => intro x117 x118 z s r h; exact T.no h
  | succ m ih => intro x117 x118 z s r h; unfold F90_L5 at h; exact (T.br h (fun h119 h => (T.br h (fun h120 h => (T.bd h fun r121 h122 h => (T.br h (fun h123 h => (T.br h (fun h124 h => (lpGo (E := EE) (Q := Q_F90_L5 a1 r95 r100 z r) (p := [Dt, .c 2, Dt, .o (o_F56 r121), .c 0, Dt, .c 1, Dt, .c 15]) (cB h119 (cB h120 (cP (F56_ok h122) (cB h123 (cB h124 c0))))) (fun s2 => ih (s := s2) h) (by kernel_rfl))) (fun h124 h => (T.br h (fun h125 h => (lpGo (E := EE) (Q := Q_F90_L5 a1 r95 r100 z r) (p := [Dt, .c 2, Dt, .o (o_F56 r121), .c 0, Dt, .c 1, Df, .c 14, Dt]) (cB h119 (cB h120 (cP (F56_ok h122) (cB h123 (cB h124 (cB h125 c0)))))) (fun s2 => ih (s := s2) h) (by kernel_rfl))) (fun h125 h => (lpGo (E := EE) (Q := Q_F90_L5 a1 r95 r100 z r) (p := [Dt, .c 2, Dt, .o (o_F56 r121), .c 0, Dt, .c 1, Df, .c 14, Df]) (cB h119 (cB h120 (cP (F56_ok h122) (cB h123 (cB h124 (cB h125 c0)))))) (fun s2 => ih (s := s2) h) (by kernel_rfl))))))) (fun h123 h => (lpGo (E := EE) (Q := Q_F90_L5 a1 r95 r100 z r) (p := [Dt, .c 2, Dt, .o (o_F56 r121), .c 0, Df, .c 17]) (cB h119 (cB h120 (cP (F56_ok h122) (cB h123 c0)))) (fun s2 => ih (s := s2) h) (by kernel_rfl)))))) (fun h120 h => (lpLf (E := EE) (Q := Q_F90_L5 a1 r95 r100 z) (p := [Dt, .c 2, Df]) (g := mkF90_L5_X0_w0 a1 r95 r100 x117 z) h (cB h119 (cB h120 c0)) rfl (fun s2 => ⟨s2, rfl⟩) (by kernel_rfl))))) (fun h119 h => (lpLf (E := EE) (Q := Q_F90_L5 a1 r95 r100 z) (p := [Df, .c 3]) (g := mkF90_L5_X0_w0 a1 r95 r100 x117 z) h (cB h119 c0) rfl (fun s2 => ⟨s2, rfl⟩) (by kernel_rfl))))
noncomputable def c_F90_L6 : Code := Code.sub' bd_90 [1, 1, 1, 1, 1, 1, 1, 1, 0, 0, 0, 0, 1, 1, 1, 0, 1, 0, 0]
def mkF90_L6_X0_w0 (a1 : Int) (r95 : (List UInt8)) (x139 : Int) (r140 : (Int)) (r : Int) (z s : St) : St := { tm := ovr s 91 0 [(5, (.str (([] : List UInt8) ++ r95))), (6, (.int .i64 (a1.tmod (65536 : Int)))), (7, (.int .i64 x139)), (10, (.int .i64 r))], kb := 0, hp := [], nx := s.nx, lv := [], df := [] }
def Q_F90_L6 (a1 : Int) (r95 : (List UInt8)) (x139 : Int) (r140 : (Int)) (z : St) (r : (Int)) (o : Option (Ex × St)) : Prop := (∃ s, o = some (.exit 2, mkF90_L6_X0_w0 a1 r95 x139 r140 r z s))
def F90_L6 (k : Nat) (a1 : Int) (r140 : (Int)) : Nat → Int → Int → Option ((Int))
  | 0, _, _ => none
  | m + 1, x157, x158 => (bif (decide (x158 ≤ (w64 ((w64 ((w64 ((a1.tmod (65536 : Int)) * r140)).tdiv (65536 : Int))) + (1 : Int))))) then (bif (decide (x158 < r140)) then (Option.bind (F56 k (w64 (x158 * (65536 : Int))) r140) fun r161 => (bif (r161 == (a1.tmod (65536 : Int))) then (bif (decide (x157 < (0 : Int))) then (F90_L6 k a1 r140 m x158 (w64 (x158 + (1 : Int)))) else (bif (decide ((w64 ((w64 (x158 * (65536 : Int))) - (w64 ((a1.tmod (65536 : Int)) * r140)))) < (w64 ((w64 ((a1.tmod (65536 : Int)) * r140)) - (w64 (x157 * (65536 : Int))))))) then (F90_L6 k a1 r140 m x158 (w64 (x158 + (1 : Int)))) else (F90_L6 k a1 r140 m x157 (w64 (x158 + (1 : Int)))))) else (F90_L6 k a1 r140 m x157 (w64 (x158 + (1 : Int)))))) else (some x157)) else (some x157))
def mkF90_L6_v0 (a1 : Int) (r95 : (List UInt8)) (x139 : Int) (r140 : (Int)) (x157 : Int) (x158 : Int) (z s : St) : St := { tm := ovr s 91 0 [(5, (.str (([] : List UInt8) ++ r95))), (6, (.int .i64 (a1.tmod (65536 : Int)))), (7, (.int .i64 x139)), (8, (.int .i64 r140)), (9, (.int .i64 (w64 ((w64 ((a1.tmod (65536 : Int)) * r140)).tdiv (65536 : Int))))), (10, (.int .i64 x157)), (11, (.int .i64 x158))], kb := 0, hp := [], nx := s.nx, lv := [], df := [] }
theorem F90_L6_v0_ok {k : Nat} {a1 : Int} {r95 : (List UInt8)} {x139 : Int} {r140 : (Int)} : ∀ {m : Nat} {x157 : Int} {x158 : Int} {z s : St} {r : (Int)}, F90_L6 k a1 r140 m x157 x158 = some r → Q_F90_L6 a1 r95 x139 r140 z r (loopN (bEv Tryz.prog CC k 90 c_F90_L6) m (mkF90_L6_v0 a1 r95 x139 r140 x157 x158 z s)) := by
  intro m
  induction m with
  | zero => intro x157 x158 z s r h; exact T.no h
  | succ m ih => intro x157 x158 z s r h; unfold F90_L6 at h; exact (T.br h (fun h159 h => (T.br h (fun h160 h => (T.bd h fun r161 h162 h => (T.br h (fun h163 h => (T.br h (fun h164 h => (lpGo (E := EE) (Q := Q_F90_L6 a1 r95 x139 r140 z r) (p := [Dt, .c 2, Dt, .o (o_F56 r161), .c 0, Dt, .c 1, Dt, .c 15]) (cB h159 (cB h160 (cP (F56_ok h162) (cB h163 (cB h164 c0))))) (fun s2 => ih (s := s2) h) (by kernel_rfl))) (fun h164 h => (T.br h (fun h165 h => (lpGo (E := EE) (Q := Q_F90_L6 a1 r95 x139 r140 z r) (p := [Dt, .c 2, Dt, .o (o_F56 r161), .c 0, Dt, .c 1, Df, .c 14, Dt]) (cB h159 (cB h160 (cP (F56_ok h162) (cB h163 (cB h164 (cB h165 c0)))))) (fun s2 => ih (s := s2) h) (by kernel_rfl))) (fun h165 h => (lpGo (E := EE) (Q := Q_F90_L6 a1 r95 x139 r140 z r) (p := [Dt, .c 2, Dt, .o (o_F56 r161), .c 0, Dt, .c 1, Df, .c 14, Df]) (cB h159 (cB h160 (cP (F56_ok h162) (cB h163 (cB h164 (cB h165 c0)))))) (fun s2 => ih (s := s2) h) (by kernel_rfl))))))) (fun h163 h => (lpGo (E := EE) (Q := Q_F90_L6 a1 r95 x139 r140 z r) (p := [Dt, .c 2, Dt, .o (o_F56 r161), .c 0, Df, .c 17]) (cB h159 (cB h160 (cP (F56_ok h162) (cB h163 c0)))) (fun s2 => ih (s := s2) h) (by kernel_rfl)))))) (fun h160 h => (lpLf (E := EE) (Q := Q_F90_L6 a1 r95 x139 r140 z) (p := [Dt, .c 2, Df]) (g := mkF90_L6_X0_w0 a1 r95 x139 r140 x157 z) h (cB h159 (cB h160 c0)) rfl (fun s2 => ⟨s2, rfl⟩) (by kernel_rfl))))) (fun h159 h => (lpLf (E := EE) (Q := Q_F90_L6 a1 r95 x139 r140 z) (p := [Df, .c 3]) (g := mkF90_L6_X0_w0 a1 r95 x139 r140 x157 z) h (cB h159 c0) rfl (fun s2 => ⟨s2, rfl⟩) (by kernel_rfl))))
noncomputable def c_F90_L4 : Code := Code.sub' bd_90 [1, 1, 1, 1, 1, 1, 1, 1, 0, 0]
def mkF90_L4_X0_w0 (a1 : Int) (r95 : (List UInt8)) (r : List UInt8) (z s : St) : St := { tm := ovr s 91 0 [(2, (.str r)), (3, (.int .i64 (0 : Int)))], kb := 0, hp := [], nx := s.nx, lv := [], df := [] }
def Q_F90_L4 (a1 : Int) (r95 : (List UInt8)) (z : St) (r : (List UInt8)) (o : Option (Ex × St)) : Prop := (∃ s, o = some (.ret, mkF90_L4_X0_w0 a1 r95 r z s))
def F90_L4 (k : Nat) (a1 : Int) (r95 : (List UInt8)) : Nat → Int → Option ((List UInt8))
  | 0, _ => none
  | m + 1, x139 => (Option.bind (F110 k x139) fun r140 => (Option.bind (F90_L6 k a1 r140 k (-1 : Int) (w64 ((w64 ((a1.tmod (65536 : Int)) * r140)).tdiv (65536 : Int)))) (fun r166 => (bif (decide ((0 : Int) ≤ r166)) then (Option.bind (X109 k r166) fun r172 => (asrt (decide ((([] : List UInt8) ++ r95).length + 1 < 2 ^ 62)) (Option.bind (X111 k ([48] : List UInt8) (w64 (x139 - ((r172.length : Nat) : Int)))) fun r175 => (asrt (decide (((([] : List UInt8) ++ r95) ++ ([46] : List UInt8)).length + r175.length < 2 ^ 62)) (asrt (decide ((((([] : List UInt8) ++ r95) ++ ([46] : List UInt8)) ++ r175).length + r172.length < 2 ^ 62)) (some ((((([] : List UInt8) ++ r95) ++ ([46] : List UInt8)) ++ r175) ++ r172))))))) else (F90_L4 k a1 r95 m (w64 (x139 + (1 : Int))))))))
def mkF90_L4_v0 (a1 : Int) (r95 : (List UInt8)) (x139 : Int) (z s : St) : St := { tm := ovr s 91 0 [(5, (.str (([] : List UInt8) ++ r95))), (6, (.int .i64 (a1.tmod (65536 : Int)))), (7, (.int .i64 x139))], kb := 0, hp := [], nx := s.nx, lv := [], df := [] }
end Go.Proofs.YtjfpcgkgdajcfaaGreatDoor
