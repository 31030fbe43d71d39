/-
  Printed: the functions of the code as Lean functions, and that calls of the model come to what these say; no condition.
-/
import Derived.Test.YtjfpcgkgdajcfaaGreatDoorQ4
import Derived.KernelRfl
open Go Go.Ev Go.Proofs
set_option maxRecDepth 100000
set_option linter.unusedVariables false
set_option linter.unusedSimpArgs false
namespace Go.Proofs.YtjfpcgkgdajcfaaGreatDoor
noncomputable def bd_24 : Code := match Tryz.f24.body with | some c => c | none => .skip
theorem is_24 : FnIs Tryz.prog CC 24 Tryz.f24 bd_24 := ⟨by kernel_rfl, by kernel_rfl, by kernel_rfl⟩
-- fleuron/fleuronlaw12.few
noncomputable def c_F24_L1 : Code := Code.sub' bd_24 [1, 0, 1, 0, 0]
def mkF24_L1_X0_w0 (a1 : Bool) (a2 : List AV) (r : Unit) (z s : St) : St := { tm := ovr s 16 0 [(2, (.bool false))], kb := 0, hp := [], nx := s.nx, lv := [], df := [] }
def mkF24_L1_X1_w0 (a1 : Bool) (a2 : List AV) (r : Unit) (z s : St) : St := { tm := ovr s 16 0 [], kb := 0, hp := [], nx := s.nx, lv := [], df := [] }
def Q_F24_L1 (a1 : Bool) (a2 : List AV) (z : St) (r : (Unit) ⊕ (Unit)) (o : Option (Ex × St)) : Prop := match r with
  | (.inl r) => (∃ s, o = some (.ret, mkF24_L1_X0_w0 a1 a2 r z s))
  | (.inr r) => (∃ s, o = some (.exit 0, mkF24_L1_X1_w0 a1 a2 r z s))
def F24_L1 (k : Nat) (a2 : List AV) : Nat → Int → Option ((Unit) ⊕ (Unit))
  | 0, _ => none
  | m + 1, x8 => (bif (decide (x8 < ((a2.length : Nat) : Int))) then (asrt (decide (0 ≤ x8 ∧ x8 < ((a2.length : Nat) : Int))) (asrt (okE true [.sl 2, .bool] a2 (Int.toNat x8)) (bif (decide ((605 : Int) < (((eL a2 (Int.toNat x8) 0).length : Nat) : Int))) then (some (.inl ())) else (F24_L1 k a2 m (w64 (x8 + (1 : Int))))))) else (some (.inr ())))
def mkF24_L1_v0 (a1 : Bool) (a2 : List AV) (x8 : Int) (z s : St) : St := { tm := ovr s 16 0 [(5, (.sl a1 2 a2 .full)), (6, (.int .i64 ((a2.length : Nat) : Int))), (7, (.int .i64 x8))], kb := 0, hp := [], nx := s.nx, lv := [], df := [] }
theorem F24_L1_v0_ok {k : Nat} {a1 : Bool} {a2 : List AV} : ∀ {m : Nat} {x8 : Int} {z s : St} {r : (Unit) ⊕ (Unit)}, F24_L1 k a2 m x8 = some r → Q_F24_L1 a1 a2 z r (loopN (bEv Tryz.prog CC k 24 c_F24_L1) m (mkF24_L1_v0 a1 a2 x8 z s)) := by
  intro m
  induction m with
  | zero => intro x8 z s r h; exact T.no h
  | succ m ih => intro x8 z s r h; unfold F24_L1 at h; exact (T.br h (fun h9 h => (T.as h fun h10 h => (T.as h fun h11 h => (T.br h (fun h12 h => (lpLf (E := EE) (Q := Q_F24_L1 a1 a2 z) (p := [Dt, Dt, Dt, Dt]) (g := mkF24_L1_X0_w0 a1 a2 () z) h (cB h9 (cP h10 (cP h11 (cB h12 c0)))) rfl (fun s2 => ⟨s2, rfl⟩) (by kernel_rfl))) (fun h12 h => (lpGo (E := EE) (Q := Q_F24_L1 a1 a2 z r) (p := [Dt, Dt, Dt, Df]) (cB h9 (cP h10 (cP h11 (cB h12 c0)))) (fun s2 => ih (s := s2) h) (by kernel_rfl))))))) (fun h9 h => (lpLf (E := EE) (Q := Q_F24_L1 a1 a2 z) (p := [Df]) (g := mkF24_L1_X1_w0 a1 a2 () z) h (cB h9 c0) rfl (fun s2 => ⟨s2, rfl⟩) (by kernel_rfl))))
def o_F24 (r : Bool) : Out := .ret (.bool r)
def F24 : Nat → Bool → List AV → Option (Bool)
  | 0, _, _ => none
  | k + 1, a1, a2 => (Option.bind (F24_L1 k a2 k (0 : Int)) (Sum.elim (fun r13 => (some false)) (fun r18 => (some true))))
noncomputable def se_F24_1 (k : Nat) (a1 : Bool) (a2 : List AV) : St := stOf (oS EE k 24 bd_24 (st0 Tryz.f24 [(.sl a1 2 a2 .full)]) [.u 0, .u 0])
theorem F24_ok : ∀ {n : Nat} {a1 : Bool} {a2 : List AV} {r : Bool}, F24 n a1 a2 = some r → evF Tryz.prog CC n 24 [(.sl a1 2 a2 .full)] = some (o_F24 r) := by
  intro n
  cases n with
  | zero => intro a1 a2 r h; exact T.no h
  | succ k => intro a1 a2 r h; unfold F24 at h; exact (T.b2 h (fun r13 h14 h => ((fun q => Exists.elim q fun s15 e16 => (fnLf (E := EE) h is_24 rfl [.u 0, .l (.ret, mkF24_L1_X0_w0 a1 a2 r13 (litS [] []) s15), .c 0] (cP e16 c0) (by kernel_rfl))) (F24_L1_v0_ok (a1 := a1) (z := (litS [] [])) (s := (se_F24_1 k a1 a2)) h14))) (fun r18 h19 h => ((fun q => Exists.elim q fun s20 e21 => (fnLf (E := EE) h is_24 rfl [.u 0, .l (.exit 0, mkF24_L1_X1_w0 a1 a2 r18 (litS [] []) s20), .c 0] (cP e21 c0) (by kernel_rfl))) (F24_L1_v0_ok (a1 := a1) (z := (litS [] [])) (s := (se_F24_1 k a1 a2)) h19))))
noncomputable def bd_57 : Code := match Tryz.f57.body with | some c => c | none => .skip
theorem is_57 : FnIs Tryz.prog CC 57 Tryz.f57 bd_57 := ⟨by kernel_rfl, by kernel_rfl, by kernel_rfl⟩
-- fleuron/fleuronref10.At
def o_F57 (r : Bool) : Out := .ret (.bool r)
def F57 : Nat → Int → Int → Option (Bool)
  | 0, _, _ => none
  | k + 1, a1, a2 => (bif (decide ((-268435455 : Int) ≤ a1)) then (bif (decide (a1 ≤ (268435455 : Int))) then (bif (decide ((-268435455 : Int) ≤ a2)) then (some (decide (a2 ≤ (268435455 : Int)))) else (some false)) else (some false)) else (some false))
theorem F57_ok : ∀ {n : Nat} {a1 : Int} {a2 : Int} {r : Bool}, F57 n a1 a2 = some r → evF Tryz.prog CC n 57 [(.agg [(.int .i64 a1), (.int .i64 a2)])] = some (o_F57 r) := by
  intro n
  cases n with
  | zero => intro a1 a2 r h; exact T.no h
  | succ k => intro a1 a2 r h; unfold F57 at h; exact (T.br h (fun h3 h => (T.br h (fun h4 h => (T.br h (fun h5 h => (fnLf (E := EE) h is_57 rfl [Dt, .c 2, Dt, .c 2, Dt, .c 3] (cB h3 (cB h4 (cB h5 c0))) (by kernel_rfl))) (fun h5 h => (fnLf (E := EE) h is_57 rfl [Dt, .c 2, Dt, .c 2, Df, .c 3] (cB h3 (cB h4 (cB h5 c0))) (by kernel_rfl))))) (fun h4 h => (fnLf (E := EE) h is_57 rfl [Dt, .c 2, Df, .c 7] (cB h3 (cB h4 c0)) (by kernel_rfl))))) (fun h3 h => (fnLf (E := EE) h is_57 rfl [Df, .c 11] (cB h3 c0) (by kernel_rfl))))
noncomputable def bd_21 : Code := match Tryz.f21.body with | some c => c | none => .skip
theorem is_21 : FnIs Tryz.prog CC 21 Tryz.f21 bd_21 := ⟨by kernel_rfl, by kernel_rfl, by kernel_rfl⟩
-- fleuron/fleuronref12.Valid
noncomputable def c_F21_L1 : Code := Code.sub' bd_21 [1, 1, 1, 0, 1, 0, 0]
def mkF21_L1_X0_w0 (a1 : Bool) (a2 : List AV) (r : Unit) (z s : St) : St := { tm := ovr s 45 0 [(2, (.bool false))], kb := 0, hp := [jB s 0 1 true], nx := s.nx, lv := [], df := [] }
def mkF21_L1_X1_w0 (a1 : Bool) (a2 : List AV) (r : Unit) (z s : St) : St := { tm := ovr s 45 0 [], kb := 0, hp := [jB s 0 1 true], nx := s.nx, lv := [], df := [] }
def Q_F21_L1 (a1 : Bool) (a2 : List AV) (z : St) (r : (Unit) ⊕ (Unit)) (o : Option (Ex × St)) : Prop := match r with
  | (.inl r) => (∃ s, o = some (.ret, mkF21_L1_X0_w0 a1 a2 r z s))
  | (.inr r) => (∃ s, o = some (.exit 0, mkF21_L1_X1_w0 a1 a2 r z s))
def F21_L1 (k : Nat) (a2 : List AV) : Nat → Int → Option ((Unit) ⊕ (Unit))
  | 0, _ => none
  | m + 1, x15 => (bif (decide (x15 < ((a2.length : Nat) : Int))) then (asrt (decide (0 ≤ x15 ∧ x15 < ((a2.length : Nat) : Int))) (asrt (okE true [.int .i64, .int .i64] a2 (Int.toNat x15)) (Option.bind (F57 k (eI a2 (Int.toNat x15) 0) (eI a2 (Int.toNat x15) 1)) fun r19 => (bif r19 then (F21_L1 k a2 m (w64 (x15 + (1 : Int)))) else (some (.inl ())))))) else (some (.inr ())))
def mkF21_L1_v0 (a1 : Bool) (a2 : List AV) (x15 : Int) (z s : St) : St := { tm := ovr s 45 0 [(35, (.sl a1 2 a2 .no)), (36, (.int .i64 ((a2.length : Nat) : Int))), (37, (.int .i64 x15))], kb := 0, hp := [jB s 0 1 true], nx := s.nx, lv := [], df := [] }
theorem F21_L1_v0_ok {k : Nat} {a1 : Bool} {a2 : List AV} : ∀ {m : Nat} {x15 : Int} {z s : St} {r : (Unit) ⊕ (Unit)}, F21_L1 k a2 m x15 = some r → Q_F21_L1 a1 a2 z r (loopN (bEv Tryz.prog CC k 21 c_F21_L1) m (mkF21_L1_v0 a1 a2 x15 z s)) := by
  intro m
  induction m with
  | zero => intro x15 z s r h; exact T.no h
  | succ m ih => intro x15 z s r h; unfold F21_L1 at h; exact (T.br h (fun h16 h => (T.as h fun h17 h => (T.as h fun h18 h => (T.bd h fun r19 h20 h => (T.br h (fun h21 h => (lpGo (E := EE) (Q := Q_F21_L1 a1 a2 z r) (p := [Dt, Dt, Dt, .o (o_F57 r19), .c 0, Df]) (cB h16 (cP h17 (cP h18 (cP (F57_ok h20) (cB (T.nt h21) c0))))) (fun s2 => ih (s := s2) h) (by kernel_rfl))) (fun h21 h => (lpLf (E := EE) (Q := Q_F21_L1 a1 a2 z) (p := [Dt, Dt, Dt, .o (o_F57 r19), .c 0, Dt]) (g := mkF21_L1_X0_w0 a1 a2 () z) h (cB h16 (cP h17 (cP h18 (cP (F57_ok h20) (cB (T.nt h21) c0))))) rfl (fun s2 => ⟨s2, rfl⟩) (by kernel_rfl)))))))) (fun h16 h => (lpLf (E := EE) (Q := Q_F21_L1 a1 a2 z) (p := [Df]) (g := mkF21_L1_X1_w0 a1 a2 () z) h (cB h16 c0) rfl (fun s2 => ⟨s2, rfl⟩) (by kernel_rfl))))
def o_F21 (r : Bool) : Out := .ret (.bool r)
def F21 : Nat → Bool → List AV → Bool → Option (Bool)
  | 0, _, _, _ => none
  | k + 1, a1, a2, a3 => (bif a3 then (bif (decide (((a2.length : Nat) : Int) < (3 : Int))) then (some false) else (bif ((((a2.length : Nat) : Int).tmod (3 : Int)) != (0 : Int)) then (some false) else (bif (decide ((601 : Int) < ((a2.length : Nat) : Int))) then (some false) else (Option.bind (F21_L1 k a2 k (0 : Int)) (Sum.elim (fun r22 => (some false)) (fun r27 => (some true))))))) else (bif ((((a2.length : Nat) : Int).tmod (3 : Int)) != (1 : Int)) then (some false) else (bif (decide ((601 : Int) < ((a2.length : Nat) : Int))) then (some false) else (Option.bind (F21_L1 k a2 k (0 : Int)) (Sum.elim (fun r34 => (some false)) (fun r39 => (some true)))))))
noncomputable def se_F21_1 (k : Nat) (a1 : Bool) (a2 : List AV) (a3 : Bool) : St := stOf (oS EE k 21 bd_21 (st0 Tryz.f21 [(.agg [(.sl a1 2 a2 .no), (.bool a3)])]) [Dt, .c 1, Df, .c 5, Df, .c 2, Df, .c 7, Df, .u 0, .u 0])
noncomputable def se_F21_2 (k : Nat) (a1 : Bool) (a2 : List AV) (a3 : Bool) : St := stOf (oS EE k 21 bd_21 (st0 Tryz.f21 [(.agg [(.sl a1 2 a2 .no), (.bool a3)])]) [Df, .c 10, Dt, .c 5, Df, .c 1, Df, .u 0, .u 0])
theorem F21_ok : ∀ {n : Nat} {a1 : Bool} {a2 : List AV} {a3 : Bool} {r : Bool}, F21 n a1 a2 a3 = some r → evF Tryz.prog CC n 21 [(.agg [(.sl a1 2 a2 .no), (.bool a3)])] = some (o_F21 r) := by
  intro n
  cases n with
  | zero => intro a1 a2 a3 r h; exact T.no h
  | succ k => intro a1 a2 a3 r h; unfold F21 at h; exact (T.br h (fun h4 h => (T.br h (fun h5 h => (fnLf (E := EE) h is_21 rfl [Dt, .c 1, Dt, .c 18] (cB h4 (cB h5 c0)) (by kernel_rfl))) (fun h5 h => (T.br h (fun h6 h => (fnLf (E := EE) h is_21 rfl [Dt, .c 1, Df, .c 5, Dt, .c 12] (cB h4 (cB h5 (cB h6 c0))) (by kernel_rfl))) (fun h6 h => (T.br h (fun h7 h => (fnLf (E := EE) h is_21 rfl [Dt, .c 1, Df, .c 5, Df, .c 2, Df, .c 7, Dt, .c 0] (cB h4 (cB h5 (cB h6 (cB (T.nt h4) (cB h7 c0))))) (by kernel_rfl))) (fun h7 h => (T.b2 h (fun r22 h23 h => ((fun q => Exists.elim q fun s24 e25 => (fnLf (E := EE) h is_21 rfl [Dt, .c 1, Df, .c 5, Df, .c 2, Df, .c 7, Df, .u 0, .l (.ret, mkF21_L1_X0_w0 a1 a2 r22 (litS [litB (blkG (se_F21_1 k a1 a2 a3) 0)] []) s24), .c 0] (cB h4 (cB h5 (cB h6 (cB (T.nt h4) (cB h7 (cP e25 c0)))))) (by kernel_rfl))) (F21_L1_v0_ok (a1 := a1) (z := (litS [litB (blkG (se_F21_1 k a1 a2 a3) 0)] [])) (s := (se_F21_1 k a1 a2 a3)) h23))) (fun r27 h28 h => ((fun q => Exists.elim q fun s29 e30 => (fnLf (E := EE) h is_21 rfl [Dt, .c 1, Df, .c 5, Df, .c 2, Df, .c 7, Df, .u 0, .l (.exit 0, mkF21_L1_X1_w0 a1 a2 r27 (litS [litB (blkG (se_F21_1 k a1 a2 a3) 0)] []) s29), .c 0] (cB h4 (cB h5 (cB h6 (cB (T.nt h4) (cB h7 (cP e30 c0)))))) (by kernel_rfl))) (F21_L1_v0_ok (a1 := a1) (z := (litS [litB (blkG (se_F21_1 k a1 a2 a3) 0)] [])) (s := (se_F21_1 k a1 a2 a3)) h28))))))))))) (fun h4 h => (T.br h (fun h32 h => (fnLf (E := EE) h is_21 rfl [Df, .c 10, Dt, .c 5, Dt, .c 3] (cB h4 (cB (T.nt h4) (cB h32 c0))) (by kernel_rfl))) (fun h32 h => (T.br h (fun h33 h => (fnLf (E := EE) h is_21 rfl [Df, .c 10, Dt, .c 5, Df, .c 1, Dt, .c 0] (cB h4 (cB (T.nt h4) (cB h32 (cB h33 c0)))) (by kernel_rfl))) (fun h33 h => (T.b2 h (fun r34 h35 h => ((fun q => Exists.elim q fun s36 e37 => (fnLf (E := EE) h is_21 rfl [Df, .c 10, Dt, .c 5, Df, .c 1, Df, .u 0, .l (.ret, mkF21_L1_X0_w0 a1 a2 r34 (litS [litB (blkG (se_F21_2 k a1 a2 a3) 0)] []) s36), .c 0] (cB h4 (cB (T.nt h4) (cB h32 (cB h33 (cP e37 c0))))) (by kernel_rfl))) (F21_L1_v0_ok (a1 := a1) (z := (litS [litB (blkG (se_F21_2 k a1 a2 a3) 0)] [])) (s := (se_F21_2 k a1 a2 a3)) h35))) (fun r39 h40 h => ((fun q => Exists.elim q fun s41 e42 => (fnLf (E := EE) h is_21 rfl [Df, .c 10, Dt, .c 5, Df, .c 1, Df, .u 0, .l (.exit 0, mkF21_L1_X1_w0 a1 a2 r39 (litS [litB (blkG (se_F21_2 k a1 a2 a3) 0)] []) s41), .c 0] (cB h4 (cB (T.nt h4) (cB h32 (cB h33 (cP e42 c0))))) (by kernel_rfl))) (F21_L1_v0_ok (a1 := a1) (z := (litS [litB (blkG (se_F21_2 k a1 a2 a3) 0)] [])) (s := (se_F21_2 k a1 a2 a3)) h40))))))))))
noncomputable def bd_42 : Code := match Tryz.f42.body with | some c => c | none => .skip
theorem is_42 : FnIs Tryz.prog CC 42 Tryz.f42 bd_42 := ⟨by kernel_rfl, by kernel_rfl, by kernel_rfl⟩
-- fleuron/fleuronref12.Size
def o_F42 (r : Int) : Out := .ret (.int .i64 r)
theorem F42_ok : ∀ {n : Nat} {a1 : Bool} {a2 : List AV} {a3 : Bool} {r : Int}, F61 n a1 a2 a3 = some r → evF Tryz.prog CC n 42 [(.agg [(.sl a1 2 a2 .no), (.bool a3)])] = some (o_F42 r) := by
  intro n
  cases n with
  | zero => intro a1 a2 a3 r h; exact T.no h
  | succ k => intro a1 a2 a3 r h; unfold F61 at h; exact (fnLf (E := EE) h is_42 rfl [.c 1] (c0) (by kernel_rfl))
noncomputable def bd_26 : Code := match Tryz.f26.body with | some c => c | none => .skip
theorem is_26 : FnIs Tryz.prog CC 26 Tryz.f26 bd_26 := ⟨by kernel_rfl, by kernel_rfl, by kernel_rfl⟩
-- fleuron/fleuronref12.Length
def o_F26 (r : Int × Int) : Out := .ret (.tup [(.int .i64 r.1), (.int .i64 r.2)])
def F26 : Nat → Bool → List AV → Bool → Option (Int × Int)
  | 0, _, _, _ => none
  | k + 1, a1, a2, a3 => (Option.bind (F21 k a1 a2 a3) fun r4 => (asrt (AV.cleanL a2) (bif r4 then (Option.bind (F61 k a1 a2 a3) fun r8 => (some (r8, (0 : Int)))) else (some ((0 : Int), (2 : Int))))))
theorem F26_ok : ∀ {n : Nat} {a1 : Bool} {a2 : List AV} {a3 : Bool} {r : Int × Int}, F26 n a1 a2 a3 = some r → evF Tryz.prog CC n 26 [(.agg [(.sl a1 2 a2 .no), (.bool a3)])] = some (o_F26 r) := by
  intro n
  cases n with
  | zero => intro a1 a2 a3 r h; exact T.no h
  | succ k => intro a1 a2 a3 r h; unfold F26 at h; exact (T.bd h fun r4 h5 h => (T.as h fun h6 h => (T.br h (fun h7 h => (T.bd h fun r8 h9 h => (fnLf (E := EE) h is_26 rfl [.o (o_F21 r4), Dt, Df, .o (o_F42 r8), Dt, .c 0] (cP (T.an (T.an h6 rfl) rfl) (cP (F21_ok h5) (cB (T.nt h7) (cP (T.an (T.an h6 rfl) rfl) (cP (F42_ok h9) c0))))) (by kernel_rfl)))) (fun h7 h => (fnLf (E := EE) h is_26 rfl [.o (o_F21 r4), Dt, Dt, .c 0] (cP (T.an (T.an h6 rfl) rfl) (cP (F21_ok h5) (cB (T.nt h7) c0))) (by kernel_rfl))))))
noncomputable def bd_23 : Code := match Tryz.f23.body with | some c => c | none => .skip
theorem is_23 : FnIs Tryz.prog CC 23 Tryz.f23 bd_23 := ⟨by kernel_rfl, by kernel_rfl, by kernel_rfl⟩
-- fleuron/paths.Knots
noncomputable def c_F23_L1 : Code := Code.sub' bd_23 [1, 1, 1, 0, 1, 0, 0]
def mkF23_L1_X0_w0 (a1 : Bool) (a2 : List AV) (a3 : Bool) (r : Bool) (z s : St) : St := { tm := ovr s 25 0 [(4, (.sl r 0 ([] : List AV) .full))], kb := 0, hp := [jB s 0 1 true], nx := s.nx, lv := [], df := [] }
def mkF23_L1_X0_w1 (a1 : Bool) (a2 : List AV) (a3 : Bool) (r : Bool × List AV) (z s : St) : St := { tm := ovr s 25 0 [(4, (.sl r.1 2 r.2 (.own 23 (lvG s 0))))], kb := 0, hp := [jB s 0 1 true], nx := s.nx, lv := [(23, (lvG s 0), r.2.length, 40)], df := [] }
def Q_F23_L1 (a1 : Bool) (a2 : List AV) (a3 : Bool) (z : St) (r : (Bool × List AV)) (o : Option (Ex × St)) : Prop := (∃ q s, r = (q, ([] : List AV)) ∧ o = some (.exit 0, mkF23_L1_X0_w0 a1 a2 a3 q z s)) ∨ (∃ s, o = some (.exit 0, mkF23_L1_X0_w1 a1 a2 a3 r z s))
def F23_L1 (k : Nat) (a2 : List AV) : Nat → Bool → List AV → Int → Option ((Bool × List AV))
  | 0, _, _, _ => none
  | m + 1, x26, x27, x28 => (bif (decide (x28 < ((a2.length : Nat) : Int))) then (asrt (decide (0 ≤ x28 ∧ x28 < ((a2.length : Nat) : Int))) (asrt (okE true [.int .i64, .int .i64] a2 (Int.toNat x28)) (asrt (decide ((x27.length + 1 + 1) * (16 + 1) ≤ 2 ^ 36)) (F23_L1 k a2 m false (x27 ++ ([(.agg [(.int .i64 (eI a2 (Int.toNat x28) 0)), (.int .i64 (eI a2 (Int.toNat x28) 1))])] : List AV)) (w64 (x28 + (3 : Int))))))) else (some (x26, x27)))
def mkF23_L1_v1 (a1 : Bool) (a2 : List AV) (a3 : Bool) (x26 : Bool) (x27 : List AV) (x28 : Int) (z s : St) : St := { tm := ovr s 25 0 [(1, (.pt 1 (blkG z 0) 0 0)), (4, (.sl x26 2 x27 (.own 23 (lvG s 0)))), (5, (.int .i64 x28))], kb := 0, hp := [{ k := 1, g := (blkG z 0), n := 2, els := ([(.agg [(.sl a1 2 a2 .no), (.bool a3)])] : List AV), ty := 25, va := true, fz := false }], nx := s.nx, lv := [(23, (lvG s 0), x27.length, 40)], df := [] }
theorem F23_L1_v1_ok {k : Nat} {a1 : Bool} {a2 : List AV} {a3 : Bool} : ∀ {m : Nat} {x26 : Bool} {x27 : List AV} {x28 : Int} {z s : St} {r : (Bool × List AV)}, F23_L1 k a2 m x26 x27 x28 = some r → Q_F23_L1 a1 a2 a3 z r (loopN (bEv Tryz.prog CC k 23 c_F23_L1) m (mkF23_L1_v1 a1 a2 a3 x26 x27 x28 z s)) := by
  intro m
  induction m with
  | zero => intro x26 x27 x28 z s r h; exact T.no h
  | succ m ih => intro x26 x27 x28 z s r h; unfold F23_L1 at h; exact (T.br h (fun h29 h => (T.as h fun h30 h => (T.as h fun h31 h => (T.as h fun h32 h => (lpGo (E := EE) (Q := Q_F23_L1 a1 a2 a3 z r) (p := [Dt, Dt, Dt, Dt]) (cB h29 (cP h30 (cP h31 (cP h32 c0)))) (fun s2 => ih (s := s2) h) (by kernel_rfl)))))) (fun h29 h => (lpLf (E := EE) (Q := Q_F23_L1 a1 a2 a3 z) (p := [Df]) (g := mkF23_L1_X0_w1 a1 a2 a3 (x26, x27) z) h (cB h29 c0) rfl (fun s2 => Or.inr (⟨s2, rfl⟩)) (by kernel_rfl))))
def mkF23_L1_v0 (a1 : Bool) (a2 : List AV) (a3 : Bool) (x26 : Bool) (x28 : Int) (z s : St) : St := { tm := ovr s 25 0 [(1, (.pt 1 (blkG z 0) 0 0)), (4, (.sl x26 0 ([] : List AV) .full)), (5, (.int .i64 x28))], kb := 0, hp := [{ k := 1, g := (blkG z 0), n := 2, els := ([(.agg [(.sl a1 2 a2 .no), (.bool a3)])] : List AV), ty := 25, va := true, fz := false }], nx := s.nx, lv := [], df := [] }
theorem F23_L1_v0_ok {k : Nat} {a1 : Bool} {a2 : List AV} {a3 : Bool} : ∀ {m : Nat} {x26 : Bool} {x28 : Int} {z s : St} {r : (Bool × List AV)}, F23_L1 k a2 m x26 ([] : List AV) x28 = some r → Q_F23_L1 a1 a2 a3 z r (loopN (bEv Tryz.prog CC k 23 c_F23_L1) m (mkF23_L1_v0 a1 a2 a3 x26 x28 z s)) := by
  intro m
  induction m with
  | zero => intro x26 x28 z s r h; exact T.no h
  | succ m ih => intro x26 x28 z s r h; unfold F23_L1 at h; exact (T.br h (fun h29 h => (T.as h fun h30 h => (T.as h fun h31 h => (T.as h fun h32 h => (lpGo (E := EE) (Q := Q_F23_L1 a1 a2 a3 z r) (p := [Dt, Dt, Dt, Dt, .c 0]) (cB h29 (cP h30 (cP h31 (cP h32 c0)))) (fun s2 => F23_L1_v1_ok (a1 := a1) (a3 := a3) (s := s2) h) (by kernel_rfl)))))) (fun h29 h => (lpLf (E := EE) (Q := Q_F23_L1 a1 a2 a3 z) (p := [Df]) (g := mkF23_L1_X0_w0 a1 a2 a3 x26 z) h (cB h29 c0) rfl (fun s2 => Or.inl ⟨x26, s2, rfl, rfl⟩) (by kernel_rfl))))
def o_F23 (r : Bool × List AV × Int) : Out := .ret (.tup [(.sl r.1 2 r.2.1 .no), (.int .i64 r.2.2)])
def F23 : Nat → Bool → List AV → Bool → Option (Bool × List AV × Int)
  | 0, _, _, _ => none
  | k + 1, a1, a2, a3 => (Option.bind (F29 k a1 a2 a3) fun r4 => (asrt (AV.cleanL a2) (bif r4 then (Option.bind (F23_L1 k a2 k true ([] : List AV) (0 : Int)) (fun r33 => (asrt (AV.cleanL r33.2) (some (r33.1, r33.2, (0 : Int)))))) else (some (true, ([] : List AV), (2 : Int))))))
noncomputable def se_F23_1 (k : Nat) (a1 : Bool) (a2 : List AV) (a3 : Bool) (r4 : (Bool)) : St := stOf (oS EE k 23 bd_23 (st0 Tryz.f23 [(.agg [(.sl a1 2 a2 .no), (.bool a3)])]) [.o (o_F29 r4), Dt, Df, .u 0, .u 0])
theorem F23_ok : ∀ {n : Nat} {a1 : Bool} {a2 : List AV} {a3 : Bool} {r : Bool × List AV × Int}, F23 n a1 a2 a3 = some r → evF Tryz.prog CC n 23 [(.agg [(.sl a1 2 a2 .no), (.bool a3)])] = some (o_F23 r) := by
  intro n
  cases n with
  | zero => intro a1 a2 a3 r h; exact T.no h
  | succ k => intro a1 a2 a3 r h; unfold F23 at h; exact (T.bd h fun r4 h5 h => (T.as h fun h6 h => (T.br h (fun h7 h => (T.bd h (fun r33 h34 h => (Or.elim (F23_L1_v0_ok (a1 := a1) (a3 := a3) (z := (litS [litB (blkG (se_F23_1 k a1 a2 a3 r4) 0)] [])) (s := (se_F23_1 k a1 a2 a3 r4)) h34) (fun q => Exists.elim q fun r37 q => Exists.elim q fun s35 q => by obtain ⟨e, e36⟩ := q; subst e; exact (T.as h fun h38 h => (fnLf (E := EE) h is_23 rfl [.o (o_F29 r4), Dt, Df, .u 0, .l (.exit 0, mkF23_L1_X0_w0 a1 a2 a3 r37 (litS [litB (blkG (se_F23_1 k a1 a2 a3 r4) 0)] []) s35), Dt] (cP (T.an (T.an h6 rfl) rfl) (cP (F29_ok h5) (cB (T.nt h7) (cP e36 (cP (T.an h38 rfl) c0))))) (by kernel_rfl)))) (fun q => Exists.elim q fun s35 e36 => (T.as h fun h38 h => (fnLf (E := EE) h is_23 rfl [.o (o_F29 r4), Dt, Df, .u 0, .l (.exit 0, mkF23_L1_X0_w1 a1 a2 a3 r33 (litS [litB (blkG (se_F23_1 k a1 a2 a3 r4) 0)] []) s35), Dt] (cP (T.an (T.an h6 rfl) rfl) (cP (F29_ok h5) (cB (T.nt h7) (cP e36 (cP (T.an h38 rfl) c0))))) (by kernel_rfl)))))))) (fun h7 h => (fnLf (E := EE) h is_23 rfl [.o (o_F29 r4), Dt, Dt, .c 0] (cP (T.an (T.an h6 rfl) rfl) (cP (F29_ok h5) (cB (T.nt h7) c0))) (by kernel_rfl))))))
noncomputable def bd_27 : Code := match Tryz.f27.body with | some c => c | none => .skip
theorem is_27 : FnIs Tryz.prog CC 27 Tryz.f27 bd_27 := ⟨by kernel_rfl, by kernel_rfl, by kernel_rfl⟩
-- fleuron/fleuronref12.Knots
noncomputable def c_F27_L1 : Code := Code.sub' bd_27 [1, 1, 1, 0, 1, 0, 0]
def mkF27_L1_X0_w0 (a1 : Bool) (a2 : List AV) (a3 : Bool) (r : Bool) (z s : St) : St := { tm := ovr s 25 0 [(4, (.sl r 0 ([] : List AV) .full))], kb := 0, hp := [jB s 0 1 true], nx := s.nx, lv := [], df := [] }
def mkF27_L1_X0_w1 (a1 : Bool) (a2 : List AV) (a3 : Bool) (r : Bool × List AV) (z s : St) : St := { tm := ovr s 25 0 [(4, (.sl r.1 2 r.2 (.own 23 (lvG s 0))))], kb := 0, hp := [jB s 0 1 true], nx := s.nx, lv := [(23, (lvG s 0), r.2.length, 40)], df := [] }
def Q_F27_L1 (a1 : Bool) (a2 : List AV) (a3 : Bool) (z : St) (r : (Bool × List AV)) (o : Option (Ex × St)) : Prop := (∃ q s, r = (q, ([] : List AV)) ∧ o = some (.exit 0, mkF27_L1_X0_w0 a1 a2 a3 q z s)) ∨ (∃ s, o = some (.exit 0, mkF27_L1_X0_w1 a1 a2 a3 r z s))
def mkF27_L1_v1 (a1 : Bool) (a2 : List AV) (a3 : Bool) (x26 : Bool) (x27 : List AV) (x28 : Int) (z s : St) : St := { tm := ovr s 25 0 [(1, (.pt 1 (blkG z 0) 0 0)), (4, (.sl x26 2 x27 (.own 23 (lvG s 0)))), (5, (.int .i64 x28))], kb := 0, hp := [{ k := 1, g := (blkG z 0), n := 2, els := ([(.agg [(.sl a1 2 a2 .no), (.bool a3)])] : List AV), ty := 25, va := true, fz := false }], nx := s.nx, lv := [(23, (lvG s 0), x27.length, 40)], df := [] }
theorem F27_L1_v1_ok {k : Nat} {a1 : Bool} {a2 : List AV} {a3 : Bool} : ∀ {m : Nat} {x26 : Bool} {x27 : List AV} {x28 : Int} {z s : St} {r : (Bool × List AV)}, F23_L1 k a2 m x26 x27 x28 = some r → Q_F27_L1 a1 a2 a3 z r (loopN (bEv Tryz.prog CC k 27 c_F27_L1) m (mkF27_L1_v1 a1 a2 a3 x26 x27 x28 z s)) := by
  intro m
  induction m with
  | zero => intro x26 x27 x28 z s r h; exact T.no h
  | succ m ih => intro x26 x27 x28 z s r h; unfold F23_L1 at h; exact (T.br h (fun h29 h => (T.as h fun h30 h => (T.as h fun h31 h => (T.as h fun h32 h => (lpGo (E := EE) (Q := Q_F27_L1 a1 a2 a3 z r) (p := [Dt, Dt, Dt, Dt]) (cB h29 (cP h30 (cP h31 (cP h32 c0)))) (fun s2 => ih (s := s2) h) (by kernel_rfl)))))) (fun h29 h => (lpLf (E := EE) (Q := Q_F27_L1 a1 a2 a3 z) (p := [Df]) (g := mkF27_L1_X0_w1 a1 a2 a3 (x26, x27) z) h (cB h29 c0) rfl (fun s2 => Or.inr (⟨s2, rfl⟩)) (by kernel_rfl))))
def mkF27_L1_v0 (a1 : Bool) (a2 : List AV) (a3 : Bool) (x26 : Bool) (x28 : Int) (z s : St) : St := { tm := ovr s 25 0 [(1, (.pt 1 (blkG z 0) 0 0)), (4, (.sl x26 0 ([] : List AV) .full)), (5, (.int .i64 x28))], kb := 0, hp := [{ k := 1, g := (blkG z 0), n := 2, els := ([(.agg [(.sl a1 2 a2 .no), (.bool a3)])] : List AV), ty := 25, va := true, fz := false }], nx := s.nx, lv := [], df := [] }
theorem F27_L1_v0_ok {k : Nat} {a1 : Bool} {a2 : List AV} {a3 : Bool} : ∀ {m : Nat} {x26 : Bool} {x28 : Int} {z s : St} {r : (Bool × List AV)}, F23_L1 k a2 m x26 ([] : List AV) x28 = some r → Q_F27_L1 a1 a2 a3 z r (loopN (bEv Tryz.prog CC k 27 c_F27_L1) m (mkF27_L1_v0 a1 a2 a3 x26 x28 z s)) := by
  intro m
  induction m with
  | zero => intro x26 x28 z s r h; exact T.no h
  | succ m ih => intro x26 x28 z s r h; unfold F23_L1 at h; exact (T.br h (fun h29 h => (T.as h fun h30 h => (T.as h fun h31 h => (T.as h fun h32 h => (lpGo (E := EE) (Q := Q_F27_L1 a1 a2 a3 z r) (p := [Dt, Dt, Dt, Dt, .c 0]) (cB h29 (cP h30 (cP h31 (cP h32 c0)))) (fun s2 => F27_L1_v1_ok (a1 := a1) (a3 := a3) (s := s2) h) (by kernel_rfl)))))) (fun h29 h => (lpLf (E := EE) (Q := Q_F27_L1 a1 a2 a3 z) (p := [Df]) (g := mkF27_L1_X0_w0 a1 a2 a3 x26 z) h (cB h29 c0) rfl (fun s2 => Or.inl ⟨x26, s2, rfl, rfl⟩) (by kernel_rfl))))
def o_F27 (r : Bool × List AV × Int) : Out := .ret (.tup [(.sl r.1 2 r.2.1 .no), (.int .i64 r.2.2)])
def F27 : Nat → Bool → List AV → Bool → Option (Bool × List AV × Int)
  | 0, _, _, _ => none
  | k + 1, a1, a2, a3 => (Option.bind (F21 k a1 a2 a3) fun r4 => (asrt (AV.cleanL a2) (bif r4 then (Option.bind (F23_L1 k a2 k true ([] : List AV) (0 : Int)) (fun r33 => (asrt (AV.cleanL r33.2) (some (r33.1, r33.2, (0 : Int)))))) else (some (true, ([] : List AV), (2 : Int))))))
noncomputable def se_F27_1 (k : Nat) (a1 : Bool) (a2 : List AV) (a3 : Bool) (r4 : (Bool)) : St := stOf (oS EE k 27 bd_27 (st0 Tryz.f27 [(.agg [(.sl a1 2 a2 .no), (.bool a3)])]) [.o (o_F21 r4), Dt, Df, .u 0, .u 0])
theorem F27_ok : ∀ {n : Nat} {a1 : Bool} {a2 : List AV} {a3 : Bool} {r : Bool × List AV × Int}, F27 n a1 a2 a3 = some r → evF Tryz.prog CC n 27 [(.agg [(.sl a1 2 a2 .no), (.bool a3)])] = some (o_F27 r) := by
  intro n
  cases n with
  | zero => intro a1 a2 a3 r h; exact T.no h
  | succ k => intro a1 a2 a3 r h; unfold F27 at h; exact (T.bd h fun r4 h5 h => (T.as h fun h6 h => (T.br h (fun h7 h => (T.bd h (fun r33 h34 h => (Or.elim (F27_L1_v0_ok (a1 := a1) (a3 := a3) (z := (litS [litB (blkG (se_F27_1 k a1 a2 a3 r4) 0)] [])) (s := (se_F27_1 k a1 a2 a3 r4)) h34) (fun q => Exists.elim q fun r37 q => Exists.elim q fun s35 q => by obtain ⟨e, e36⟩ := q; subst e; exact (T.as h fun h38 h => (fnLf (E := EE) h is_27 rfl [.o (o_F21 r4), Dt, Df, .u 0, .l (.exit 0, mkF27_L1_X0_w0 a1 a2 a3 r37 (litS [litB (blkG (se_F27_1 k a1 a2 a3 r4) 0)] []) s35), Dt] (cP (T.an (T.an h6 rfl) rfl) (cP (F21_ok h5) (cB (T.nt h7) (cP e36 (cP (T.an h38 rfl) c0))))) (by kernel_rfl)))) (fun q => Exists.elim q fun s35 e36 => (T.as h fun h38 h => (fnLf (E := EE) h is_27 rfl [.o (o_F21 r4), Dt, Df, .u 0, .l (.exit 0, mkF27_L1_X0_w1 a1 a2 a3 r33 (litS [litB (blkG (se_F27_1 k a1 a2 a3 r4) 0)] []) s35), Dt] (cP (T.an (T.an h6 rfl) rfl) (cP (F21_ok h5) (cB (T.nt h7) (cP e36 (cP (T.an h38 rfl) c0))))) (by kernel_rfl)))))))) (fun h7 h => (fnLf (E := EE) h is_27 rfl [.o (o_F21 r4), Dt, Dt, .c 0] (cP (T.an (T.an h6 rfl) rfl) (cP (F21_ok h5) (cB (T.nt h7) c0))) (by kernel_rfl))))))
noncomputable def bd_80 : Code := match Tryz.f80.body with | some c => c | none => .skip
theorem is_80 : FnIs Tryz.prog CC 80 Tryz.f80 bd_80 := ⟨by kernel_rfl, by kernel_rfl, by kernel_rfl⟩
-- fleuron/fleuronref12.down
def o_F80 (r : Int) : Out := .ret (.int .i64 r)
theorem F80_ok : ∀ {n : Nat} {a1 : Int} {a2 : Int} {r : Int}, F88 n a1 a2 = some r → evF Tryz.prog CC n 80 [(.int .i64 a1), (.int .i64 a2)] = some (o_F80 r) := by
  intro n
  cases n with
  | zero => intro a1 a2 r h; exact T.no h
  | succ k => intro a1 a2 r h; unfold F88 at h; exact (T.br h (fun h3 h => (T.no h)) (fun h3 h => (T.br h (fun h4 h => (fnLf (E := EE) h is_80 rfl [Df, Df, Dt, .c 0] (cP h3 (cP h3 (cB h4 c0))) (by kernel_rfl))) (fun h4 h => (fnLf (E := EE) h is_80 rfl [Df, Df, Df, .c 0] (cP h3 (cP h3 (cB h4 c0))) (by kernel_rfl))))))
noncomputable def bd_79 : Code := match Tryz.f79.body with | some c => c | none => .skip
theorem is_79 : FnIs Tryz.prog CC 79 Tryz.f79 bd_79 := ⟨by kernel_rfl, by kernel_rfl, by kernel_rfl⟩
-- fleuron/fleuronref12.place
def o_F79 (r : Int) : Out := .ret (.int .i64 r)
def F79 : Nat → Bool → List AV → Bool → Int → Option (Int)
  | 0, _, _, _, _ => none
  | k + 1, a1, a2, a3, a4 => (Option.bind (F61 k a1 a2 a3) fun r5 => (asrt (AV.cleanL a2) (bif a3 then (Option.bind (F88 k a4 (w64 (r5 * (65536 : Int)))) fun r9 => (some (w64 (a4 - (w64 (r9 * (w64 (r5 * (65536 : Int))))))))) else (some (mx2 (0 : Int) (mn2 a4 (w64 (r5 * (65536 : Int)))))))))
theorem F79_ok : ∀ {n : Nat} {a1 : Bool} {a2 : List AV} {a3 : Bool} {a4 : Int} {r : Int}, F79 n a1 a2 a3 a4 = some r → evF Tryz.prog CC n 79 [(.agg [(.sl a1 2 a2 .no), (.bool a3)]), (.int .i64 a4)] = some (o_F79 r) := by
  intro n
  cases n with
  | zero => intro a1 a2 a3 a4 r h; exact T.no h
  | succ k => intro a1 a2 a3 a4 r h; unfold F79 at h; exact (T.bd h fun r5 h6 h => (T.as h fun h7 h => (T.br h (fun h8 h => (T.bd h fun r9 h10 h => (fnLf (E := EE) h is_79 rfl [.o (o_F42 r5), Dt, Dt, .o (o_F80 r9), .c 1] (cP (T.an (T.an h7 rfl) rfl) (cP (F42_ok h6) (cB h8 (cP (F80_ok h10) c0)))) (by kernel_rfl)))) (fun h8 h => (fnLf (E := EE) h is_79 rfl [.o (o_F42 r5), Dt, Df, .c 0] (cP (T.an (T.an h7 rfl) rfl) (cP (F42_ok h6) (cB h8 c0))) (by kernel_rfl))))))
noncomputable def bd_92 : Code := match Tryz.f92.body with | some c => c | none => .skip
theorem is_92 : FnIs Tryz.prog CC 92 Tryz.f92 bd_92 := ⟨by kernel_rfl, by kernel_rfl, by kernel_rfl⟩
-- fleuron/fleuronref12.at
def o_F92 (r : Int × Int) : Out := .ret (.agg [(.int .i64 r.1), (.int .i64 r.2)])
def F92 : Nat → Bool → List AV → Bool → Int → Option (Int × Int)
  | 0, _, _, _, _ => none
  | k + 1, a1, a2, a3, a4 => (bif (decide (((a2.length : Nat) : Int) = 0)) then none else (asrt (decide (0 ≤ (a4.tmod ((a2.length : Nat) : Int)) ∧ (a4.tmod ((a2.length : Nat) : Int)) < ((a2.length : Nat) : Int))) (asrt (okE true [.int .i64, .int .i64] a2 (Int.toNat (a4.tmod ((a2.length : Nat) : Int)))) (some ((eI a2 (Int.toNat (a4.tmod ((a2.length : Nat) : Int))) 0), (eI a2 (Int.toNat (a4.tmod ((a2.length : Nat) : Int))) 1))))))
theorem F92_ok : ∀ {n : Nat} {a1 : Bool} {a2 : List AV} {a3 : Bool} {a4 : Int} {r : Int × Int}, F92 n a1 a2 a3 a4 = some r → evF Tryz.prog CC n 92 [(.agg [(.sl a1 2 a2 .no), (.bool a3)]), (.int .i64 a4)] = some (o_F92 r) := by
  intro n
  cases n with
  | zero => intro a1 a2 a3 a4 r h; exact T.no h
  | succ k => intro a1 a2 a3 a4 r h; unfold F92 at h; exact (T.br h (fun h5 h => (T.no h)) (fun h5 h => (T.as h fun h6 h => (T.as h fun h7 h => (fnLf (E := EE) h is_92 rfl [Df, Dt, Dt, .c 0] (cP h5 (cP h6 (cP h7 c0))) (by kernel_rfl))))))
noncomputable def bd_65 : Code := match Tryz.f65.body with | some c => c | none => .skip
theorem is_65 : FnIs Tryz.prog CC 65 Tryz.f65 bd_65 := ⟨by kernel_rfl, by kernel_rfl, by kernel_rfl⟩
-- fleuron/fleuronref12.Segment
def o_F65 (r : Int × Int × Int × Int × Int × Int × Int × Int) : Out := .ret (.agg [(.int .i64 r.1), (.int .i64 r.2.1), (.int .i64 r.2.2.1), (.int .i64 r.2.2.2.1), (.int .i64 r.2.2.2.2.1), (.int .i64 r.2.2.2.2.2.1), (.int .i64 r.2.2.2.2.2.2.1), (.int .i64 r.2.2.2.2.2.2.2)])
def F65 : Nat → Bool → List AV → Bool → Int → Option (Int × Int × Int × Int × Int × Int × Int × Int)
  | 0, _, _, _, _ => none
  | k + 1, a1, a2, a3, a4 => (Option.bind (F92 k a1 a2 a3 (w64 ((3 : Int) * a4))) fun r5 => (asrt (AV.cleanL a2) (Option.bind (F92 k a1 a2 a3 (w64 ((w64 ((3 : Int) * a4)) + (1 : Int)))) fun r8 => (Option.bind (F92 k a1 a2 a3 (w64 ((w64 ((3 : Int) * a4)) + (2 : Int)))) fun r10 => (Option.bind (F92 k a1 a2 a3 (w64 ((w64 ((3 : Int) * a4)) + (3 : Int)))) fun r12 => (some (r5.1, r5.2, r8.1, r8.2, r10.1, r10.2, r12.1, r12.2)))))))
theorem F65_ok : ∀ {n : Nat} {a1 : Bool} {a2 : List AV} {a3 : Bool} {a4 : Int} {r : Int × Int × Int × Int × Int × Int × Int × Int}, F65 n a1 a2 a3 a4 = some r → evF Tryz.prog CC n 65 [(.agg [(.sl a1 2 a2 .no), (.bool a3)]), (.int .i64 a4)] = some (o_F65 r) := by
  intro n
  cases n with
  | zero => intro a1 a2 a3 a4 r h; exact T.no h
  | succ k => intro a1 a2 a3 a4 r h; unfold F65 at h; exact (T.bd h fun r5 h6 h => (T.as h fun h7 h => (T.bd h fun r8 h9 h => (T.bd h fun r10 h11 h => (T.bd h fun r12 h13 h => (fnLf (E := EE) h is_65 rfl [.o (o_F92 r5), Dt, .o (o_F92 r8), Dt, .o (o_F92 r10), Dt, .o (o_F92 r12), Dt, .c 0] (cP (T.an (T.an h7 rfl) rfl) (cP (F92_ok h6) (cP (T.an (T.an h7 rfl) rfl) (cP (F92_ok h9) (cP (T.an (T.an h7 rfl) rfl) (cP (F92_ok h11) (cP (T.an (T.an h7 rfl) rfl) (cP (F92_ok h13) c0)))))))) (by kernel_rfl)))))))
noncomputable def bd_58 : Code := match Tryz.f58.body with | some c => c | none => .skip
theorem is_58 : FnIs Tryz.prog CC 58 Tryz.f58 bd_58 := ⟨by kernel_rfl, by kernel_rfl, by kernel_rfl⟩
-- fleuron/fleuronref12.near
def o_F58 (r : Int) : Out := .ret (.int .i64 r)
theorem F58_ok : ∀ {n : Nat} {a1 : Int} {a2 : Int} {r : Int}, F56 n a1 a2 = some r → evF Tryz.prog CC n 58 [(.int .i64 a1), (.int .i64 a2)] = some (o_F58 r) := by
  intro n
  cases n with
  | zero => intro a1 a2 r h; exact T.no h
  | succ k => intro a1 a2 r h; unfold F56 at h; exact (T.bd h fun r3 h4 h => (fnLf (E := EE) h is_58 rfl [.o (o_F80 r3), .c 1] (cP (F80_ok h4) c0) (by kernel_rfl)))
noncomputable def bd_99 : Code := match Tryz.f99.body with | some c => c | none => .skip
theorem is_99 : FnIs Tryz.prog CC 99 Tryz.f99 bd_99 := ⟨by kernel_rfl, by kernel_rfl, by kernel_rfl⟩
-- fleuron/fleuronref12.between
def o_F99 (r : Int × Int) : Out := .ret (.agg [(.int .i64 r.1), (.int .i64 r.2)])
theorem F99_ok : ∀ {n : Nat} {a1 : Int} {a2 : Int} {a3 : Int} {a4 : Int} {a5 : Int} {r : Int × Int}, F98 n a1 a2 a3 a4 a5 = some r → evF Tryz.prog CC n 99 [(.agg [(.int .i64 a1), (.int .i64 a2)]), (.agg [(.int .i64 a3), (.int .i64 a4)]), (.int .i64 a5)] = some (o_F99 r) := by
  intro n
  cases n with
  | zero => intro a1 a2 a3 a4 a5 r h; exact T.no h
  | succ k => intro a1 a2 a3 a4 a5 r h; unfold F98 at h; exact (T.bd h fun r6 h7 h => (T.bd h fun r8 h9 h => (fnLf (E := EE) h is_99 rfl [.o (o_F58 r6), .c 0, .o (o_F58 r8), .c 1] (cP (F58_ok h7) (cP (F58_ok h9) c0)) (by kernel_rfl))))
noncomputable def bd_81 : Code := match Tryz.f81.body with | some c => c | none => .skip
theorem is_81 : FnIs Tryz.prog CC 81 Tryz.f81 bd_81 := ⟨by kernel_rfl, by kernel_rfl, by kernel_rfl⟩
-- fleuron/fleuronref12.Split
def o_F81 (r : Int × Int × Int × Int × Int × Int × Int × Int × Int × Int × Int × Int × Int × Int × Int × Int) : Out := .ret (.tup [(.agg [(.int .i64 r.1), (.int .i64 r.2.1), (.int .i64 r.2.2.1), (.int .i64 r.2.2.2.1), (.int .i64 r.2.2.2.2.1), (.int .i64 r.2.2.2.2.2.1), (.int .i64 r.2.2.2.2.2.2.1), (.int .i64 r.2.2.2.2.2.2.2.1)]), (.agg [(.int .i64 r.2.2.2.2.2.2.2.2.1), (.int .i64 r.2.2.2.2.2.2.2.2.2.1), (.int .i64 r.2.2.2.2.2.2.2.2.2.2.1), (.int .i64 r.2.2.2.2.2.2.2.2.2.2.2.1), (.int .i64 r.2.2.2.2.2.2.2.2.2.2.2.2.1), (.int .i64 r.2.2.2.2.2.2.2.2.2.2.2.2.2.1), (.int .i64 r.2.2.2.2.2.2.2.2.2.2.2.2.2.2.1), (.int .i64 r.2.2.2.2.2.2.2.2.2.2.2.2.2.2.2)])])
theorem F81_ok : ∀ {n : Nat} {a1 : Int} {a2 : Int} {a3 : Int} {a4 : Int} {a5 : Int} {a6 : Int} {a7 : Int} {a8 : Int} {a9 : Int} {r : Int × Int × Int × Int × Int × Int × Int × Int × Int × Int × Int × Int × Int × Int × Int × Int}, F78 n a1 a2 a3 a4 a5 a6 a7 a8 a9 = some r → evF Tryz.prog CC n 81 [(.agg [(.int .i64 a1), (.int .i64 a2), (.int .i64 a3), (.int .i64 a4), (.int .i64 a5), (.int .i64 a6), (.int .i64 a7), (.int .i64 a8)]), (.int .i64 a9)] = some (o_F81 r) := by
  intro n
  cases n with
  | zero => intro a1 a2 a3 a4 a5 a6 a7 a8 a9 r h; exact T.no h
  | succ k => intro a1 a2 a3 a4 a5 a6 a7 a8 a9 r h; unfold F78 at h; exact (T.bd h fun r10 h11 h => (T.bd h fun r12 h13 h => (T.bd h fun r14 h15 h => (T.bd h fun r16 h17 h => (T.bd h fun r18 h19 h => (T.bd h fun r20 h21 h => (fnLf (E := EE) h is_81 rfl [.c 1, .o (o_F99 r10), .c 2, .o (o_F99 r12), .c 2, .o (o_F99 r14), .c 0, .o (o_F99 r16), .c 0, .o (o_F99 r18), .c 0, .o (o_F99 r20), .c 3] (cP (F99_ok h11) (cP (F99_ok h13) (cP (F99_ok h15) (cP (F99_ok h17) (cP (F99_ok h19) (cP (F99_ok h21) c0)))))) (by kernel_rfl))))))))
noncomputable def bd_76 : Code := match Tryz.f76.body with | some c => c | none => .skip
theorem is_76 : FnIs Tryz.prog CC 76 Tryz.f76 bd_76 := ⟨by kernel_rfl, by kernel_rfl, by kernel_rfl⟩
-- fleuron/fleuronref12.near3
def o_F76 (r : Int × Int × Int × Int × Int × Int) : Out := .ret (.agg [(.int .i64 r.1), (.int .i64 r.2.1), (.int .i64 r.2.2.1), (.int .i64 r.2.2.2.1), (.int .i64 r.2.2.2.2.1), (.int .i64 r.2.2.2.2.2)])
def F76 : Nat → Bool → List AV → Bool → Int → Option (Int × Int × Int × Int × Int × Int)
  | 0, _, _, _, _ => none
  | k + 1, a1, a2, a3, a4 => (Option.bind (F79 k a1 a2 a3 a4) fun r5 => (asrt (AV.cleanL a2) (bif (decide ((0 : Int) < (r5.tmod (65536 : Int)))) then (Option.bind (F65 k a1 a2 a3 (w64 (r5.tdiv (65536 : Int)))) fun r9 => (Option.bind (F78 k r9.1 r9.2.1 r9.2.2.1 r9.2.2.2.1 r9.2.2.2.2.1 r9.2.2.2.2.2.1 r9.2.2.2.2.2.2.1 r9.2.2.2.2.2.2.2 (r5.tmod (65536 : Int))) fun r11 => (some (r11.2.2.2.2.1, r11.2.2.2.2.2.1, r11.2.2.2.2.2.2.1, r11.2.2.2.2.2.2.2.1, r11.2.2.2.2.2.2.2.2.2.2.1, r11.2.2.2.2.2.2.2.2.2.2.2.1)))) else (Option.bind (F92 k a1 a2 a3 (w64 ((3 : Int) * (w64 (r5.tdiv (65536 : Int)))))) fun r13 => (bif a3 then (Option.bind (F92 k a1 a2 a3 (w64 ((w64 ((w64 ((3 : Int) * (w64 (r5.tdiv (65536 : Int))))) + ((a2.length : Nat) : Int))) - (1 : Int)))) fun r16 => (Option.bind (F92 k a1 a2 a3 (w64 ((w64 ((3 : Int) * (w64 (r5.tdiv (65536 : Int))))) + (1 : Int)))) fun r18 => (some (r16.1, r16.2, r13.1, r13.2, r18.1, r18.2)))) else (bif (decide ((0 : Int) < (w64 (r5.tdiv (65536 : Int))))) then (Option.bind (F92 k a1 a2 a3 (w64 ((w64 ((w64 ((3 : Int) * (w64 (r5.tdiv (65536 : Int))))) + ((a2.length : Nat) : Int))) - (1 : Int)))) fun r21 => (asrt (decide (0 ≤ (w64 ((w64 ((3 : Int) * (w64 (r5.tdiv (65536 : Int))))) - (1 : Int))) ∧ (w64 ((w64 ((3 : Int) * (w64 (r5.tdiv (65536 : Int))))) - (1 : Int))) < ((a2.length : Nat) : Int))) (asrt (okE true [.int .i64, .int .i64] a2 (Int.toNat (w64 ((w64 ((3 : Int) * (w64 (r5.tdiv (65536 : Int))))) - (1 : Int))))) (Option.bind (F61 k a1 a2 a3) fun r25 => (bif (decide ((w64 (r5.tdiv (65536 : Int))) < r25)) then (Option.bind (F92 k a1 a2 a3 (w64 ((w64 ((3 : Int) * (w64 (r5.tdiv (65536 : Int))))) + (1 : Int)))) fun r28 => (some ((eI a2 (Int.toNat (w64 ((w64 ((3 : Int) * (w64 (r5.tdiv (65536 : Int))))) - (1 : Int)))) 0), (eI a2 (Int.toNat (w64 ((w64 ((3 : Int) * (w64 (r5.tdiv (65536 : Int))))) - (1 : Int)))) 1), r13.1, r13.2, r28.1, r28.2))) else (some ((eI a2 (Int.toNat (w64 ((w64 ((3 : Int) * (w64 (r5.tdiv (65536 : Int))))) - (1 : Int)))) 0), (eI a2 (Int.toNat (w64 ((w64 ((3 : Int) * (w64 (r5.tdiv (65536 : Int))))) - (1 : Int)))) 1), r13.1, r13.2, r13.1, r13.2))))))) else (Option.bind (F61 k a1 a2 a3) fun r30 => (bif (decide ((w64 (r5.tdiv (65536 : Int))) < r30)) then (Option.bind (F92 k a1 a2 a3 (w64 ((w64 ((3 : Int) * (w64 (r5.tdiv (65536 : Int))))) + (1 : Int)))) fun r33 => (some (r13.1, r13.2, r13.1, r13.2, r33.1, r33.2))) else (some (r13.1, r13.2, r13.1, r13.2, r13.1, r13.2))))))))))
theorem F76_ok : ∀ {n : Nat} {a1 : Bool} {a2 : List AV} {a3 : Bool} {a4 : Int} {r : Int × Int × Int × Int × Int × Int}, F76 n a1 a2 a3 a4 = some r → evF Tryz.prog CC n 76 [(.agg [(.sl a1 2 a2 .no), (.bool a3)]), (.int .i64 a4)] = some (o_F76 r) := by
  intro n
  cases n with
  | zero => intro a1 a2 a3 a4 r h; exact T.no h
  | succ k => intro a1 a2 a3 a4 r h; unfold F76 at h; exact (T.bd h fun r5 h6 h => (T.as h fun h7 h => (T.br h (fun h8 h => (T.bd h fun r9 h10 h => (T.bd h fun r11 h12 h => (fnLf (E := EE) h is_76 rfl [.o (o_F79 r5), Dt, .c 1, Dt, .o (o_F65 r9), Dt, .o (o_F81 r11), .c 4] (cP (T.an (T.an h7 rfl) rfl) (cP (F79_ok h6) (cB h8 (cP (T.an (T.an h7 rfl) rfl) (cP (F65_ok h10) (cP (F81_ok h12) c0)))))) (by kernel_rfl))))) (fun h8 h => (T.bd h fun r13 h14 h => (T.br h (fun h15 h => (T.bd h fun r16 h17 h => (T.bd h fun r18 h19 h => (fnLf (E := EE) h is_76 rfl [.o (o_F79 r5), Dt, .c 1, Df, .o (o_F92 r13), Dt, Dt, .c 2, .o (o_F92 r16), Dt, .c 0, Df, Dt, .c 4, .o (o_F92 r18), Dt, .c 1] (cP (T.an (T.an h7 rfl) rfl) (cP (F79_ok h6) (cB h8 (cP (T.an (T.an h7 rfl) rfl) (cP (F92_ok h14) (cB h15 (cP (T.an (T.an h7 rfl) rfl) (cP (F92_ok h17) (cB (T.nt h15) (cB h15 (cP (T.an (T.an h7 rfl) rfl) (cP (F92_ok h19) c0)))))))))))) (by kernel_rfl))))) (fun h15 h => (T.br h (fun h20 h => (T.bd h fun r21 h22 h => (T.as h fun h23 h => (T.as h fun h24 h => (T.bd h fun r25 h26 h => (T.br h (fun h27 h => (T.bd h fun r28 h29 h => (fnLf (E := EE) h is_76 rfl [.o (o_F79 r5), Dt, .c 1, Df, .o (o_F92 r13), Dt, Df, .c 1, Dt, .o (o_F92 r21), Dt, .c 0, Dt, Dt, Dt, .c 0, Df, .c 1, .o (o_F42 r25), Dt, .c 1, Dt, .o (o_F92 r28), Dt, .c 1] (cP (T.an (T.an h7 rfl) rfl) (cP (F79_ok h6) (cB h8 (cP (T.an (T.an h7 rfl) rfl) (cP (F92_ok h14) (cB h15 (cB h20 (cP (T.an (T.an h7 rfl) rfl) (cP (F92_ok h22) (cB (T.nt h15) (cP h23 (cP h24 (cB h15 (cP (T.an (T.an h7 rfl) rfl) (cP (F42_ok h26) (cB h27 (cP (T.an (T.an h7 rfl) rfl) (cP (F92_ok h29) c0)))))))))))))))))) (by kernel_rfl)))) (fun h27 h => (fnLf (E := EE) h is_76 rfl [.o (o_F79 r5), Dt, .c 1, Df, .o (o_F92 r13), Dt, Df, .c 1, Dt, .o (o_F92 r21), Dt, .c 0, Dt, Dt, Dt, .c 0, Df, .c 1, .o (o_F42 r25), Dt, .c 1, Df, .c 0] (cP (T.an (T.an h7 rfl) rfl) (cP (F79_ok h6) (cB h8 (cP (T.an (T.an h7 rfl) rfl) (cP (F92_ok h14) (cB h15 (cB h20 (cP (T.an (T.an h7 rfl) rfl) (cP (F92_ok h22) (cB (T.nt h15) (cP h23 (cP h24 (cB h15 (cP (T.an (T.an h7 rfl) rfl) (cP (F42_ok h26) (cB h27 c0)))))))))))))))) (by kernel_rfl))))))))) (fun h20 h => (T.bd h fun r30 h31 h => (T.br h (fun h32 h => (T.bd h fun r33 h34 h => (fnLf (E := EE) h is_76 rfl [.o (o_F79 r5), Dt, .c 1, Df, .o (o_F92 r13), Dt, Df, .c 1, Df, Df, .c 1, .o (o_F42 r30), Dt, .c 1, Dt, .o (o_F92 r33), Dt, .c 1] (cP (T.an (T.an h7 rfl) rfl) (cP (F79_ok h6) (cB h8 (cP (T.an (T.an h7 rfl) rfl) (cP (F92_ok h14) (cB h15 (cB h20 (cB h15 (cP (T.an (T.an h7 rfl) rfl) (cP (F42_ok h31) (cB h32 (cP (T.an (T.an h7 rfl) rfl) (cP (F92_ok h34) c0))))))))))))) (by kernel_rfl)))) (fun h32 h => (fnLf (E := EE) h is_76 rfl [.o (o_F79 r5), Dt, .c 1, Df, .o (o_F92 r13), Dt, Df, .c 1, Df, Df, .c 1, .o (o_F42 r30), Dt, .c 1, Df, .c 0] (cP (T.an (T.an h7 rfl) rfl) (cP (F79_ok h6) (cB h8 (cP (T.an (T.an h7 rfl) rfl) (cP (F92_ok h14) (cB h15 (cB h20 (cB h15 (cP (T.an (T.an h7 rfl) rfl) (cP (F42_ok h31) (cB h32 c0))))))))))) (by kernel_rfl))))))))))))))
noncomputable def bd_75 : Code := match Tryz.f75.body with | some c => c | none => .skip
theorem is_75 : FnIs Tryz.prog CC 75 Tryz.f75 bd_75 := ⟨by kernel_rfl, by kernel_rfl, by kernel_rfl⟩
-- fleuron/fleuronref12.one
def o_F75 (r : Int × Int × Int) : Out := .ret (.tup [(.agg [(.int .i64 r.1), (.int .i64 r.2.1)]), (.int .i64 r.2.2)])
def F75 : Nat → Bool → List AV → Bool → Int → Option (Int × Int × Int)
  | 0, _, _, _, _ => none
  | k + 1, a1, a2, a3, a4 => (Option.bind (F21 k a1 a2 a3) fun r5 => (asrt (AV.cleanL a2) (bif r5 then (Option.bind (F76 k a1 a2 a3 a4) fun r9 => (some (r9.2.2.1, r9.2.2.2.1, (0 : Int)))) else (some ((0 : Int), (0 : Int), (2 : Int))))))
theorem F75_ok : ∀ {n : Nat} {a1 : Bool} {a2 : List AV} {a3 : Bool} {a4 : Int} {r : Int × Int × Int}, F75 n a1 a2 a3 a4 = some r → evF Tryz.prog CC n 75 [(.agg [(.sl a1 2 a2 .no), (.bool a3)]), (.int .i64 a4), (.int .i64 (1 : Int))] = some (o_F75 r) := by
  intro n
  cases n with
  | zero => intro a1 a2 a3 a4 r h; exact T.no h
  | succ k => intro a1 a2 a3 a4 r h; unfold F75 at h; exact (T.bd h fun r5 h6 h => (T.as h fun h7 h => (T.br h (fun h8 h => (T.bd h fun r9 h10 h => (fnLf (E := EE) h is_75 rfl [.o (o_F21 r5), Dt, Df, .o (o_F76 r9), Dt, .c 0] (cP (T.an (T.an h7 rfl) rfl) (cP (F21_ok h6) (cB (T.nt h8) (cP (T.an (T.an h7 rfl) rfl) (cP (F76_ok h10) c0))))) (by kernel_rfl)))) (fun h8 h => (fnLf (E := EE) h is_75 rfl [.o (o_F21 r5), Dt, Dt, .c 0] (cP (T.an (T.an h7 rfl) rfl) (cP (F21_ok h6) (cB (T.nt h8) c0))) (by kernel_rfl))))))
noncomputable def bd_31 : Code := match Tryz.f31.body with | some c => c | none => .skip
theorem is_31 : FnIs Tryz.prog CC 31 Tryz.f31 bd_31 := ⟨by kernel_rfl, by kernel_rfl, by kernel_rfl⟩
-- fleuron/fleuronref12.Point
def o_F31 (r : Int × Int × Int) : Out := .ret (.tup [(.agg [(.int .i64 r.1), (.int .i64 r.2.1)]), (.int .i64 r.2.2)])
def F31 : Nat → Bool → List AV → Bool → Int → Option (Int × Int × Int)
  | 0, _, _, _, _ => none
  | k + 1, a1, a2, a3, a4 => (Option.bind (F75 k a1 a2 a3 a4) fun r5 => (asrt (AV.cleanL a2) (some (r5.1, r5.2.1, r5.2.2))))
theorem F31_ok : ∀ {n : Nat} {a1 : Bool} {a2 : List AV} {a3 : Bool} {a4 : Int} {r : Int × Int × Int}, F31 n a1 a2 a3 a4 = some r → evF Tryz.prog CC n 31 [(.agg [(.sl a1 2 a2 .no), (.bool a3)]), (.int .i64 a4)] = some (o_F31 r) := by
  intro n
  cases n with
  | zero => intro a1 a2 a3 a4 r h; exact T.no h
  | succ k => intro a1 a2 a3 a4 r h; unfold F31 at h; exact (T.bd h fun r5 h6 h => (T.as h fun h7 h => (fnLf (E := EE) h is_31 rfl [.o (o_F75 r5), Dt, .c 0] (cP (T.an (T.an h7 rfl) rfl) (cP (F75_ok h6) c0)) (by kernel_rfl))))
noncomputable def bd_32 : Code := match Tryz.f32.body with | some c => c | none => .skip
theorem is_32 : FnIs Tryz.prog CC 32 Tryz.f32 bd_32 := ⟨by kernel_rfl, by kernel_rfl, by kernel_rfl⟩
-- fleuron/paths.Pre
def o_F32 (r : Int × Int × Int) : Out := .ret (.tup [(.agg [(.int .i64 r.1), (.int .i64 r.2.1)]), (.int .i64 r.2.2)])
def F32 : Nat → Bool → List AV → Bool → Int → Option (Int × Int × Int)
  | 0, _, _, _, _ => none
  | k + 1, a1, a2, a3, a4 => (Option.bind (F74 k a1 a2 a3 a4) fun r5 => (asrt (AV.cleanL a2) (some (r5.1, r5.2.1, r5.2.2.2.2.2.2))))
theorem F32_ok : ∀ {n : Nat} {a1 : Bool} {a2 : List AV} {a3 : Bool} {a4 : Int} {r : Int × Int × Int}, F32 n a1 a2 a3 a4 = some r → evF Tryz.prog CC n 32 [(.agg [(.sl a1 2 a2 .no), (.bool a3)]), (.int .i64 a4)] = some (o_F32 r) := by
  intro n
  cases n with
  | zero => intro a1 a2 a3 a4 r h; exact T.no h
  | succ k => intro a1 a2 a3 a4 r h; unfold F32 at h; exact (T.bd h fun r5 h6 h => (T.as h fun h7 h => (fnLf (E := EE) h is_32 rfl [.o (o_F74 r5), Dt, .c 0] (cP (T.an (T.an h7 rfl) rfl) (cP (F74_ok h6) c0)) (by kernel_rfl))))
-- fleuron/fleuronref12.one
def o_F75a (r : Int × Int × Int) : Out := .ret (.tup [(.agg [(.int .i64 r.1), (.int .i64 r.2.1)]), (.int .i64 r.2.2)])
def F75a : Nat → Bool → List AV → Bool → Int → Option (Int × Int × Int)
  | 0, _, _, _, _ => none
  | k + 1, a1, a2, a3, a4 => (Option.bind (F21 k a1 a2 a3) fun r5 => (asrt (AV.cleanL a2) (bif r5 then (Option.bind (F76 k a1 a2 a3 a4) fun r9 => (some (r9.1, r9.2.1, (0 : Int)))) else (some ((0 : Int), (0 : Int), (2 : Int))))))
theorem F75a_ok : ∀ {n : Nat} {a1 : Bool} {a2 : List AV} {a3 : Bool} {a4 : Int} {r : Int × Int × Int}, F75a n a1 a2 a3 a4 = some r → evF Tryz.prog CC n 75 [(.agg [(.sl a1 2 a2 .no), (.bool a3)]), (.int .i64 a4), (.int .i64 (0 : Int))] = some (o_F75a r) := by
  intro n
  cases n with
  | zero => intro a1 a2 a3 a4 r h; exact T.no h
  | succ k => intro a1 a2 a3 a4 r h; unfold F75a at h; exact (T.bd h fun r5 h6 h => (T.as h fun h7 h => (T.br h (fun h8 h => (T.bd h fun r9 h10 h => (fnLf (E := EE) h is_75 rfl [.o (o_F21 r5), Dt, Df, .o (o_F76 r9), Dt, .c 0] (cP (T.an (T.an h7 rfl) rfl) (cP (F21_ok h6) (cB (T.nt h8) (cP (T.an (T.an h7 rfl) rfl) (cP (F76_ok h10) c0))))) (by kernel_rfl)))) (fun h8 h => (fnLf (E := EE) h is_75 rfl [.o (o_F21 r5), Dt, Dt, .c 0] (cP (T.an (T.an h7 rfl) rfl) (cP (F21_ok h6) (cB (T.nt h8) c0))) (by kernel_rfl))))))
noncomputable def bd_33 : Code := match Tryz.f33.body with | some c => c | none => .skip
theorem is_33 : FnIs Tryz.prog CC 33 Tryz.f33 bd_33 := ⟨by kernel_rfl, by kernel_rfl, by kernel_rfl⟩
-- fleuron/fleuronref12.Pre
def o_F33 (r : Int × Int × Int) : Out := .ret (.tup [(.agg [(.int .i64 r.1), (.int .i64 r.2.1)]), (.int .i64 r.2.2)])
def F33 : Nat → Bool → List AV → Bool → Int → Option (Int × Int × Int)
  | 0, _, _, _, _ => none
  | k + 1, a1, a2, a3, a4 => (Option.bind (F75a k a1 a2 a3 a4) fun r5 => (asrt (AV.cleanL a2) (some (r5.1, r5.2.1, r5.2.2))))
theorem F33_ok : ∀ {n : Nat} {a1 : Bool} {a2 : List AV} {a3 : Bool} {a4 : Int} {r : Int × Int × Int}, F33 n a1 a2 a3 a4 = some r → evF Tryz.prog CC n 33 [(.agg [(.sl a1 2 a2 .no), (.bool a3)]), (.int .i64 a4)] = some (o_F33 r) := by
  intro n
  cases n with
  | zero => intro a1 a2 a3 a4 r h; exact T.no h
  | succ k => intro a1 a2 a3 a4 r h; unfold F33 at h; exact (T.bd h fun r5 h6 h => (T.as h fun h7 h => (fnLf (E := EE) h is_33 rfl [.o (o_F75a r5), Dt, .c 0] (cP (T.an (T.an h7 rfl) rfl) (cP (F75a_ok h6) c0)) (by kernel_rfl))))
noncomputable def bd_34 : Code := match Tryz.f34.body with | some c => c | none => .skip
theorem is_34 : FnIs Tryz.prog CC 34 Tryz.f34 bd_34 := ⟨by kernel_rfl, by kernel_rfl, by kernel_rfl⟩
-- fleuron/paths.Post
def o_F34 (r : Int × Int × Int) : Out := .ret (.tup [(.agg [(.int .i64 r.1), (.int .i64 r.2.1)]), (.int .i64 r.2.2)])
def F34 : Nat → Bool → List AV → Bool → Int → Option (Int × Int × Int)
  | 0, _, _, _, _ => none
  | k + 1, a1, a2, a3, a4 => (Option.bind (F74 k a1 a2 a3 a4) fun r5 => (asrt (AV.cleanL a2) (some (r5.2.2.2.2.1, r5.2.2.2.2.2.1, r5.2.2.2.2.2.2))))
theorem F34_ok : ∀ {n : Nat} {a1 : Bool} {a2 : List AV} {a3 : Bool} {a4 : Int} {r : Int × Int × Int}, F34 n a1 a2 a3 a4 = some r → evF Tryz.prog CC n 34 [(.agg [(.sl a1 2 a2 .no), (.bool a3)]), (.int .i64 a4)] = some (o_F34 r) := by
  intro n
  cases n with
  | zero => intro a1 a2 a3 a4 r h; exact T.no h
  | succ k => intro a1 a2 a3 a4 r h; unfold F34 at h; exact (T.bd h fun r5 h6 h => (T.as h fun h7 h => (fnLf (E := EE) h is_34 rfl [.o (o_F74 r5), Dt, .c 0] (cP (T.an (T.an h7 rfl) rfl) (cP (F74_ok h6) c0)) (by kernel_rfl))))
-- fleuron/fleuronref12.one
def o_F75b (r : Int × Int × Int) : Out := .ret (.tup [(.agg [(.int .i64 r.1), (.int .i64 r.2.1)]), (.int .i64 r.2.2)])
def F75b : Nat → Bool → List AV → Bool → Int → Option (Int × Int × Int)
  | 0, _, _, _, _ => none
  | k + 1, a1, a2, a3, a4 => (Option.bind (F21 k a1 a2 a3) fun r5 => (asrt (AV.cleanL a2) (bif r5 then (Option.bind (F76 k a1 a2 a3 a4) fun r9 => (some (r9.2.2.2.2.1, r9.2.2.2.2.2, (0 : Int)))) else (some ((0 : Int), (0 : Int), (2 : Int))))))
theorem F75b_ok : ∀ {n : Nat} {a1 : Bool} {a2 : List AV} {a3 : Bool} {a4 : Int} {r : Int × Int × Int}, F75b n a1 a2 a3 a4 = some r → evF Tryz.prog CC n 75 [(.agg [(.sl a1 2 a2 .no), (.bool a3)]), (.int .i64 a4), (.int .i64 (2 : Int))] = some (o_F75b r) := by
  intro n
  cases n with
  | zero => intro a1 a2 a3 a4 r h; exact T.no h
  | succ k => intro a1 a2 a3 a4 r h; unfold F75b at h; exact (T.bd h fun r5 h6 h => (T.as h fun h7 h => (T.br h (fun h8 h => (T.bd h fun r9 h10 h => (fnLf (E := EE) h is_75 rfl [.o (o_F21 r5), Dt, Df, .o (o_F76 r9), Dt, .c 0] (cP (T.an (T.an h7 rfl) rfl) (cP (F21_ok h6) (cB (T.nt h8) (cP (T.an (T.an h7 rfl) rfl) (cP (F76_ok h10) c0))))) (by kernel_rfl)))) (fun h8 h => (fnLf (E := EE) h is_75 rfl [.o (o_F21 r5), Dt, Dt, .c 0] (cP (T.an (T.an h7 rfl) rfl) (cP (F21_ok h6) (cB (T.nt h8) c0))) (by kernel_rfl))))))
noncomputable def bd_35 : Code := match Tryz.f35.body with | some c => c | none => .skip
theorem is_35 : FnIs Tryz.prog CC 35 Tryz.f35 bd_35 := ⟨by kernel_rfl, by kernel_rfl, by kernel_rfl⟩
-- fleuron/fleuronref12.Post
def o_F35 (r : Int × Int × Int) : Out := .ret (.tup [(.agg [(.int .i64 r.1), (.int .i64 r.2.1)]), (.int .i64 r.2.2)])
def F35 : Nat → Bool → List AV → Bool → Int → Option (Int × Int × Int)
  | 0, _, _, _, _ => none
  | k + 1, a1, a2, a3, a4 => (Option.bind (F75b k a1 a2 a3 a4) fun r5 => (asrt (AV.cleanL a2) (some (r5.1, r5.2.1, r5.2.2))))
theorem F35_ok : ∀ {n : Nat} {a1 : Bool} {a2 : List AV} {a3 : Bool} {a4 : Int} {r : Int × Int × Int}, F35 n a1 a2 a3 a4 = some r → evF Tryz.prog CC n 35 [(.agg [(.sl a1 2 a2 .no), (.bool a3)]), (.int .i64 a4)] = some (o_F35 r) := by
  intro n
  cases n with
  | zero => intro a1 a2 a3 a4 r h; exact T.no h
  | succ k => intro a1 a2 a3 a4 r h; unfold F35 at h; exact (T.bd h fun r5 h6 h => (T.as h fun h7 h => (fnLf (E := EE) h is_35 rfl [.o (o_F75b r5), Dt, .c 0] (cP (T.an (T.an h7 rfl) rfl) (cP (F75b_ok h6) c0)) (by kernel_rfl))))
noncomputable def bd_37 : Code := match Tryz.f37.body with | some c => c | none => .skip
theorem is_37 : FnIs Tryz.prog CC 37 Tryz.f37 bd_37 := ⟨by kernel_rfl, by kernel_rfl, by kernel_rfl⟩
-- fleuron/fleuronref12.Direction
def o_F37 (r : Int × Int × Int) : Out := .ret (.tup [(.int .i64 r.1), (.int .i64 r.2.1), (.int .i64 r.2.2)])
def F37 : Nat → Bool → List AV → Bool → Int → Option (Int × Int × Int)
  | 0, _, _, _, _ => none
  | k + 1, a1, a2, a3, a4 => (Option.bind (F21 k a1 a2 a3) fun r5 => (asrt (AV.cleanL a2) (bif r5 then (Option.bind (F76 k a1 a2 a3 a4) fun r9 => (some ((w64 (r9.2.2.2.2.1 - r9.1)), (w64 (r9.2.2.2.2.2 - r9.2.1)), (0 : Int)))) else (some ((0 : Int), (0 : Int), (2 : Int))))))
theorem F37_ok : ∀ {n : Nat} {a1 : Bool} {a2 : List AV} {a3 : Bool} {a4 : Int} {r : Int × Int × Int}, F37 n a1 a2 a3 a4 = some r → evF Tryz.prog CC n 37 [(.agg [(.sl a1 2 a2 .no), (.bool a3)]), (.int .i64 a4)] = some (o_F37 r) := by
  intro n
  cases n with
  | zero => intro a1 a2 a3 a4 r h; exact T.no h
  | succ k => intro a1 a2 a3 a4 r h; unfold F37 at h; exact (T.bd h fun r5 h6 h => (T.as h fun h7 h => (T.br h (fun h8 h => (T.bd h fun r9 h10 h => (fnLf (E := EE) h is_37 rfl [.o (o_F21 r5), Dt, Df, .o (o_F76 r9), Dt, .c 4] (cP (T.an (T.an h7 rfl) rfl) (cP (F21_ok h6) (cB (T.nt h8) (cP (T.an (T.an h7 rfl) rfl) (cP (F76_ok h10) c0))))) (by kernel_rfl)))) (fun h8 h => (fnLf (E := EE) h is_37 rfl [.o (o_F21 r5), Dt, Dt, .c 0] (cP (T.an (T.an h7 rfl) rfl) (cP (F21_ok h6) (cB (T.nt h8) c0))) (by kernel_rfl))))))
noncomputable def bd_39 : Code := match Tryz.f39.body with | some c => c | none => .skip
theorem is_39 : FnIs Tryz.prog CC 39 Tryz.f39 bd_39 := ⟨by kernel_rfl, by kernel_rfl, by kernel_rfl⟩
-- fleuron/fleuronref12.Box
noncomputable def c_F39_L1 : Code := Code.sub' bd_39 [1, 1, 1, 0, 1, 0, 0]
def mkF39_L1_X0_w0 (a1 : Bool) (a2 : List AV) (r : Int × Int × Int × Int) (z s : St) : St := { tm := ovr s 52 0 [(2, (.pt 2 (blkG z 1) 0 0)), (3, (.pt 3 (blkG z 2) 0 0))], kb := 0, hp := [jB s 0 1 true, { k := 2, g := (blkG z 1), n := 2, els := ([(.agg [(.int .i64 r.1), (.int .i64 r.2.1)])] : List AV), ty := 40, va := true, fz := false }, { k := 3, g := (blkG z 2), n := 2, els := ([(.agg [(.int .i64 r.2.2.1), (.int .i64 r.2.2.2)])] : List AV), ty := 40, va := true, fz := false }], nx := s.nx, lv := [], df := [] }
def Q_F39_L1 (a1 : Bool) (a2 : List AV) (z : St) (r : (Int × Int × Int × Int)) (o : Option (Ex × St)) : Prop := (∃ s, o = some (.exit 0, mkF39_L1_X0_w0 a1 a2 r z s))
def mkF39_L1_v0 (a1 : Bool) (a2 : List AV) (x22 : Int) (x23 : Int) (x24 : Int) (x25 : Int) (x26 : Int) (z s : St) : St := { tm := ovr s 52 0 [(2, (.pt 2 (blkG z 1) 0 0)), (3, (.pt 3 (blkG z 2) 0 0)), (21, (.sl a1 2 a2 .no)), (22, (.int .i64 ((a2.length : Nat) : Int))), (23, (.int .i64 x22))], kb := 0, hp := [jB s 0 1 true, { k := 2, g := (blkG z 1), n := 2, els := ([(.agg [(.int .i64 x23), (.int .i64 x24)])] : List AV), ty := 40, va := true, fz := false }, { k := 3, g := (blkG z 2), n := 2, els := ([(.agg [(.int .i64 x25), (.int .i64 x26)])] : List AV), ty := 40, va := true, fz := false }], nx := s.nx, lv := [], df := [] }
theorem F39_L1_v0_ok {k : Nat} {a1 : Bool} {a2 : List AV} : ∀ {m : Nat} {x22 : Int} {x23 : Int} {x24 : Int} {x25 : Int} {x26 : Int} {z s : St} {r : (Int × Int × Int × Int)}, F38_L1 k a2 m x22 x23 x24 x25 x26 = some r → Q_F39_L1 a1 a2 z r (loopN (bEv Tryz.prog CC k 39 c_F39_L1) m (mkF39_L1_v0 a1 a2 x22 x23 x24 x25 x26 z s)) := by
  intro m
  induction m with
  | zero => intro x22 x23 x24 x25 x26 z s r h; exact T.no h
  | succ m ih => intro x22 x23 x24 x25 x26 z s r h; unfold F38_L1 at h; exact (T.br h (fun h27 h => (T.as h fun h28 h => (T.as h fun h29 h => (lpGo (E := EE) (Q := Q_F39_L1 a1 a2 z r) (p := [Dt, Dt, Dt]) (cB h27 (cP h28 (cP h29 c0))) (fun s2 => ih (s := s2) h) (by kernel_rfl))))) (fun h27 h => (lpLf (E := EE) (Q := Q_F39_L1 a1 a2 z) (p := [Df]) (g := mkF39_L1_X0_w0 a1 a2 (x23, x24, x25, x26) z) h (cB h27 c0) rfl (fun s2 => ⟨s2, rfl⟩) (by kernel_rfl))))
def o_F39 (r : Int × Int × Int × Int × Int) : Out := .ret (.tup [(.agg [(.int .i64 r.1), (.int .i64 r.2.1)]), (.agg [(.int .i64 r.2.2.1), (.int .i64 r.2.2.2.1)]), (.int .i64 r.2.2.2.2)])
def F39 : Nat → Bool → List AV → Bool → Option (Int × Int × Int × Int × Int)
  | 0, _, _, _ => none
  | k + 1, a1, a2, a3 => (Option.bind (F21 k a1 a2 a3) fun r4 => (asrt (AV.cleanL a2) (bif r4 then (asrt (decide (0 ≤ (0 : Int) ∧ (0 : Int) < ((a2.length : Nat) : Int))) (asrt (okE true [.int .i64, .int .i64] a2 0) (Option.bind (F38_L1 k a2 k (0 : Int) (eI a2 0 0) (eI a2 0 1) (eI a2 0 0) (eI a2 0 1)) (fun r30 => (some (r30.1, r30.2.1, r30.2.2.1, r30.2.2.2, (0 : Int))))))) else (some ((0 : Int), (0 : Int), (0 : Int), (0 : Int), (2 : Int))))))
noncomputable def se_F39_1 (k : Nat) (a1 : Bool) (a2 : List AV) (a3 : Bool) (r4 : (Bool)) : St := stOf (oS EE k 39 bd_39 (st0 Tryz.f39 [(.agg [(.sl a1 2 a2 .no), (.bool a3)])]) [.o (o_F21 r4), Dt, Df, Dt, Dt, Dt, Dt, .u 0, .u 0])
theorem F39_ok : ∀ {n : Nat} {a1 : Bool} {a2 : List AV} {a3 : Bool} {r : Int × Int × Int × Int × Int}, F39 n a1 a2 a3 = some r → evF Tryz.prog CC n 39 [(.agg [(.sl a1 2 a2 .no), (.bool a3)])] = some (o_F39 r) := by
  intro n
  cases n with
  | zero => intro a1 a2 a3 r h; exact T.no h
  | succ k => intro a1 a2 a3 r h; unfold F39 at h; exact (T.bd h fun r4 h5 h => (T.as h fun h6 h => (T.br h (fun h7 h => (T.as h fun h8 h => (T.as h fun h9 h => (T.bd h (fun r30 h31 h => ((fun q => Exists.elim q fun s32 e33 => (fnLf (E := EE) h is_39 rfl [.o (o_F21 r4), Dt, Df, Dt, Dt, Dt, Dt, .u 0, .l (.exit 0, mkF39_L1_X0_w0 a1 a2 r30 (litS [litB (blkG (se_F39_1 k a1 a2 a3 r4) 0), litB (blkG (se_F39_1 k a1 a2 a3 r4) 1), litB (blkG (se_F39_1 k a1 a2 a3 r4) 2)] []) s32), .c 0] (cP (T.an (T.an h6 rfl) rfl) (cP (F21_ok h5) (cB (T.nt h7) (cP h8 (cP h9 (cP h8 (cP h9 (cP e33 c0)))))))) (by kernel_rfl))) (F39_L1_v0_ok (a1 := a1) (z := (litS [litB (blkG (se_F39_1 k a1 a2 a3 r4) 0), litB (blkG (se_F39_1 k a1 a2 a3 r4) 1), litB (blkG (se_F39_1 k a1 a2 a3 r4) 2)] [])) (s := (se_F39_1 k a1 a2 a3 r4)) h31))))))) (fun h7 h => (fnLf (E := EE) h is_39 rfl [.o (o_F21 r4), Dt, Dt, .c 0] (cP (T.an (T.an h6 rfl) rfl) (cP (F21_ok h5) (cB (T.nt h7) c0))) (by kernel_rfl))))))
noncomputable def bd_6 : Code := match Tryz.f6.body with | some c => c | none => .skip
theorem is_6 : FnIs Tryz.prog CC 6 Tryz.f6 bd_6 := ⟨by kernel_rfl, by kernel_rfl, by kernel_rfl⟩
-- fleuron/fleuronlaw12.PathsPoints
def o_F6 (r : Bool) : Out := .ret (.bool r)
end Go.Proofs.YtjfpcgkgdajcfaaGreatDoor
