/-
  Printed: the functions of the code as Lean functions, and that calls of the model come to what these say; no condition.
-/
import Derived.Test.YtjfpcgkgdajcfaaGreatDoorR1
import Derived.KernelRfl
open Go Go.Ev Go.Proofs
set_option maxRecDepth 100000
set_option linter.unusedVariables false
set_option linter.unusedSimpArgs false
namespace Go.Proofs.YtjfpcgkgdajcfaaGreatDoor
noncomputable def bd_112 : Code := match Tryz.f112.body with | some c => c | none => .skip
theorem is_112 : FnIs Tryz.prog CC 112 Tryz.f112 bd_112 := ⟨by kernel_rfl, by kernel_rfl, by kernel_rfl⟩
-- fleuron/fleuronref02.is
noncomputable def c_F112_L1 : Code := Code.sub' bd_112 [1, 0, 1, 0, 0]
def mkF112_L1_X0_w0 (a1 : Bool) (a2 : List AV) (r : Unit) (z s : St) : St := { tm := ovr s 18 0 [(2, (.bool false))], kb := 0, hp := [], nx := s.nx, lv := [], df := [] }
def mkF112_L1_X1_w0 (a1 : Bool) (a2 : List AV) (r : Unit) (z s : St) : St := { tm := ovr s 18 0 [], kb := 0, hp := [], nx := s.nx, lv := [], df := [] }
def Q_F112_L1 (a1 : Bool) (a2 : List AV) (z : St) (r : (Unit) ⊕ (Unit)) (o : Option (Ex × St)) : Prop := match r with
  | (.inl r) => (∃ s, o = some (.ret, mkF112_L1_X0_w0 a1 a2 r z s))
  | (.inr r) => (∃ s, o = some (.exit 0, mkF112_L1_X1_w0 a1 a2 r z s))
def mkF112_L1_v0 (a1 : Bool) (a2 : List AV) (x9 : Int) (z s : St) : St := { tm := ovr s 18 0 [(5, (.sl a1 1 a2 .full)), (6, (.int .i64 ((a2.length : Nat) : Int))), (7, (.int .i64 x9))], kb := 0, hp := [], nx := s.nx, lv := [], df := [] }
theorem F112_L1_v0_ok {k : Nat} {a1 : Bool} {a2 : List AV} : ∀ {m : Nat} {x9 : Int} {z s : St} {r : (Unit) ⊕ (Unit)}, F108_L1 k a2 m x9 = some r → Q_F112_L1 a1 a2 z r (loopN (bEv Tryz.prog CC k 112 c_F112_L1) m (mkF112_L1_v0 a1 a2 x9 z s)) := by
  intro m
  induction m with
  | zero => intro x9 z s r h; exact T.no h
  | succ m ih => intro x9 z s r h; unfold F108_L1 at h; exact (T.br h (fun h10 h => (T.as h fun h11 h => (T.as h fun h12 h => (T.br h (fun h13 h => (lpLf (E := EE) (Q := Q_F112_L1 a1 a2 z) (p := [Dt, Dt, Dt, Dt, .c 2]) (g := mkF112_L1_X0_w0 a1 a2 () z) h (cB h10 (cP h11 (cP h12 (cB h13 c0)))) rfl (fun s2 => ⟨s2, rfl⟩) (by kernel_rfl))) (fun h13 h => (T.br h (fun h14 h => (lpLf (E := EE) (Q := Q_F112_L1 a1 a2 z) (p := [Dt, Dt, Dt, Df, .c 1, Dt]) (g := mkF112_L1_X0_w0 a1 a2 () z) h (cB h10 (cP h11 (cP h12 (cB h13 (cB h14 c0))))) rfl (fun s2 => ⟨s2, rfl⟩) (by kernel_rfl))) (fun h14 h => (lpGo (E := EE) (Q := Q_F112_L1 a1 a2 z r) (p := [Dt, Dt, Dt, Df, .c 1, Df]) (cB h10 (cP h11 (cP h12 (cB h13 (cB h14 c0))))) (fun s2 => ih (s := s2) h) (by kernel_rfl))))))))) (fun h10 h => (lpLf (E := EE) (Q := Q_F112_L1 a1 a2 z) (p := [Df]) (g := mkF112_L1_X1_w0 a1 a2 () z) h (cB h10 c0) rfl (fun s2 => ⟨s2, rfl⟩) (by kernel_rfl))))
def o_F112 (r : Bool) : Out := .ret (.bool r)
noncomputable def se_F112_1 (k : Nat) (a1 : Bool) (a2 : List AV) : St := stOf (oS EE k 112 bd_112 (st0 Tryz.f112 [(.sl a1 1 a2 .full)]) [.u 0, .u 0])
theorem F112_ok : ∀ {n : Nat} {a1 : Bool} {a2 : List AV} {r : Bool}, F108 n a1 a2 = some r → evF Tryz.prog CC n 112 [(.sl a1 1 a2 .full)] = some (o_F112 r) := by
  intro n
  cases n with
  | zero => intro a1 a2 r h; exact T.no h
  | succ k => intro a1 a2 r h; unfold F108 at h; exact (T.b2 h (fun r15 h16 h => ((fun q => Exists.elim q fun s17 e18 => (fnLf (E := EE) h is_112 rfl [.u 0, .l (.ret, mkF112_L1_X0_w0 a1 a2 r15 (litS [] []) s17), .c 0] (cP e18 c0) (by kernel_rfl))) (F112_L1_v0_ok (a1 := a1) (z := (litS [] [])) (s := (se_F112_1 k a1 a2)) h16))) (fun r20 h21 h => ((fun q => Exists.elim q fun s22 e23 => (fnLf (E := EE) h is_112 rfl [.u 0, .l (.exit 0, mkF112_L1_X1_w0 a1 a2 r20 (litS [] []) s22), .c 0] (cP e23 c0) (by kernel_rfl))) (F112_L1_v0_ok (a1 := a1) (z := (litS [] [])) (s := (se_F112_1 k a1 a2)) h21))))
noncomputable def bd_113 : Code := match Tryz.f113.body with | some c => c | none => .skip
theorem is_113 : FnIs Tryz.prog CC 113 Tryz.f113 bd_113 := ⟨by kernel_rfl, by kernel_rfl, by kernel_rfl⟩
-- fleuron/fleuronref02.digits
noncomputable def c_F113_L1 : Code := Code.sub' bd_113 [1, 1, 0, 0, 0]
def mkF113_L1_X0_w0 (a2 : Int) (r : List UInt8) (z s : St) : St := { tm := ovr s 24 0 [(5, (.str r))], kb := 0, hp := [], nx := s.nx, lv := [], df := [] }
def Q_F113_L1 (a2 : Int) (z : St) (r : (List UInt8)) (o : Option (Ex × St)) : Prop := (∃ s, o = some (.exit 0, mkF113_L1_X0_w0 a2 r z s))
def F113_L1 (k : Nat) (a2 : Int) : Nat → Int → List UInt8 → Option ((List UInt8))
  | 0, _, _ => none
  | m + 1, x18, x19 => (bif (decide ((0 : Int) < x18)) then (asrt (decide (0 ≤ (IntKind.i32.wrap ((w64 ((48 : Int) + (x18.tmod (10 : Int)))))) ∧ (IntKind.i32.wrap ((w64 ((48 : Int) + (x18.tmod (10 : Int)))))) < 128)) (asrt (decide ([UInt8.ofNat (Int.toNat (IntKind.i32.wrap ((w64 ((48 : Int) + (x18.tmod (10 : Int)))))))].length + x19.length < 2 ^ 62)) (F113_L1 k a2 m (w64 (x18.tdiv (10 : Int))) ([UInt8.ofNat (Int.toNat (IntKind.i32.wrap ((w64 ((48 : Int) + (x18.tmod (10 : Int)))))))] ++ x19)))) else (bif (decide (((x19.length : Nat) : Int) < a2)) then (asrt (decide (0 ≤ (IntKind.i32.wrap ((w64 ((48 : Int) + (x18.tmod (10 : Int)))))) ∧ (IntKind.i32.wrap ((w64 ((48 : Int) + (x18.tmod (10 : Int)))))) < 128)) (asrt (decide ([UInt8.ofNat (Int.toNat (IntKind.i32.wrap ((w64 ((48 : Int) + (x18.tmod (10 : Int)))))))].length + x19.length < 2 ^ 62)) (F113_L1 k a2 m (w64 (x18.tdiv (10 : Int))) ([UInt8.ofNat (Int.toNat (IntKind.i32.wrap ((w64 ((48 : Int) + (x18.tmod (10 : Int)))))))] ++ x19)))) else (some x19)))
def mkF113_L1_v0 (a2 : Int) (x18 : Int) (x19 : List UInt8) (z s : St) : St := { tm := ovr s 24 0 [(0, (.int .i64 x18)), (1, (.int .i64 a2)), (5, (.str x19))], kb := 0, hp := [], nx := s.nx, lv := [], df := [] }
theorem F113_L1_v0_ok {k : Nat} {a2 : Int} : ∀ {m : Nat} {x18 : Int} {x19 : List UInt8} {z s : St} {r : (List UInt8)}, F113_L1 k a2 m x18 x19 = some r → Q_F113_L1 a2 z r (loopN (bEv Tryz.prog CC k 113 c_F113_L1) m (mkF113_L1_v0 a2 x18 x19 z s)) := by
  intro m
  induction m with
  | zero => intro x18 x19 z s r h; exact T.no h
  | succ m ih => intro x18 x19 z s r h; unfold F113_L1 at h; exact (T.br h (fun h20 h => (T.as h fun h21 h => (T.as h fun h22 h => (lpGo (E := EE) (Q := Q_F113_L1 a2 z r) (p := [Dt, .c 5, Dt, Dt, .c 0]) (cB h20 (cP h21 (cP h22 c0))) (fun s2 => ih (s := s2) h) (by kernel_rfl))))) (fun h20 h => (T.br h (fun h23 h => (T.as h fun h24 h => (T.as h fun h25 h => (lpGo (E := EE) (Q := Q_F113_L1 a2 z r) (p := [Df, .c 3, Dt, .c 0, Dt, Dt, .c 0]) (cB h20 (cB h23 (cP h24 (cP h25 c0)))) (fun s2 => ih (s := s2) h) (by kernel_rfl))))) (fun h23 h => (lpLf (E := EE) (Q := Q_F113_L1 a2 z) (p := [Df, .c 3, Df]) (g := mkF113_L1_X0_w0 a2 x19 z) h (cB h20 (cB h23 c0)) rfl (fun s2 => ⟨s2, rfl⟩) (by kernel_rfl))))))
def o_F113 (r : List UInt8) : Out := .ret (.str r)
def F113 : Nat → Int → Int → Option (List UInt8)
  | 0, _, _ => none
  | k + 1, a1, a2 => (Option.bind (F113_L1 k a2 k a1 ([] : List UInt8)) (fun r26 => (some r26)))
noncomputable def se_F113_1 (k : Nat) (a1 : Int) (a2 : Int) : St := stOf (oS EE k 113 bd_113 (st0 Tryz.f113 [(.int .i64 a1), (.int .i64 a2)]) [.u 0, .u 0])
theorem F113_ok : ∀ {n : Nat} {a1 : Int} {a2 : Int} {r : List UInt8}, F113 n a1 a2 = some r → evF Tryz.prog CC n 113 [(.int .i64 a1), (.int .i64 a2)] = some (o_F113 r) := by
  intro n
  cases n with
  | zero => intro a1 a2 r h; exact T.no h
  | succ k => intro a1 a2 r h; unfold F113 at h; exact (T.bd h (fun r26 h27 h => ((fun q => Exists.elim q fun s28 e29 => (fnLf (E := EE) h is_113 rfl [.u 0, .l (.exit 0, mkF113_L1_X0_w0 a2 r26 (litS [] []) s28), .c 0] (cP e29 c0) (by kernel_rfl))) (F113_L1_v0_ok (z := (litS [] [])) (s := (se_F113_1 k a1 a2)) h27))))
noncomputable def bd_134 : Code := match Tryz.f134.body with | some c => c | none => .skip
theorem is_134 : FnIs Tryz.prog CC 134 Tryz.f134 bd_134 := ⟨by kernel_rfl, by kernel_rfl, by kernel_rfl⟩
-- fleuron/fleuronref02.down
def o_F134 (r : Int) : Out := .ret (.int .i64 r)
theorem F134_ok : ∀ {n : Nat} {a1 : Int} {a2 : Int} {r : Int}, F88 n a1 a2 = some r → evF Tryz.prog CC n 134 [(.int .i64 a1), (.int .i64 a2)] = some (o_F134 r) := by
  intro n
  cases n with
  | zero => intro a1 a2 r h; exact T.no h
  | succ k => intro a1 a2 r h; unfold F88 at h; exact (T.br h (fun h3 h => (T.no h)) (fun h3 h => (T.br h (fun h4 h => (fnLf (E := EE) h is_134 rfl [Df, Df, Dt, .c 0] (cP h3 (cP h3 (cB h4 c0))) (by kernel_rfl))) (fun h4 h => (fnLf (E := EE) h is_134 rfl [Df, Df, Df, .c 0] (cP h3 (cP h3 (cB h4 c0))) (by kernel_rfl))))))
noncomputable def bd_114 : Code := match Tryz.f114.body with | some c => c | none => .skip
theorem is_114 : FnIs Tryz.prog CC 114 Tryz.f114 bd_114 := ⟨by kernel_rfl, by kernel_rfl, by kernel_rfl⟩
-- fleuron/fleuronref02.near
def o_F114 (r : Int) : Out := .ret (.int .i64 r)
def F114 : Nat → Int → Int → Option (Int)
  | 0, _, _ => none
  | k + 1, a1, a2 => (Option.bind (F88 k a1 a2) fun r3 => (bif (decide ((w64 (a2 - (w64 (a1 - (w64 (r3 * a2)))))) ≤ (w64 (a1 - (w64 (r3 * a2)))))) then (some (w64 (r3 + (1 : Int)))) else (some r3)))
theorem F114_ok : ∀ {n : Nat} {a1 : Int} {a2 : Int} {r : Int}, F114 n a1 a2 = some r → evF Tryz.prog CC n 114 [(.int .i64 a1), (.int .i64 a2)] = some (o_F114 r) := by
  intro n
  cases n with
  | zero => intro a1 a2 r h; exact T.no h
  | succ k => intro a1 a2 r h; unfold F114 at h; exact (T.bd h fun r3 h4 h => (T.br h (fun h5 h => (fnLf (E := EE) h is_114 rfl [.o (o_F134 r3), .c 0, Dt, .c 0] (cP (F134_ok h4) (cB h5 c0)) (by kernel_rfl))) (fun h5 h => (fnLf (E := EE) h is_114 rfl [.o (o_F134 r3), .c 0, Df, .c 0] (cP (F134_ok h4) (cB h5 c0)) (by kernel_rfl)))))
noncomputable def bd_91 : Code := match Tryz.f91.body with | some c => c | none => .skip
theorem is_91 : FnIs Tryz.prog CC 91 Tryz.f91 bd_91 := ⟨by kernel_rfl, by kernel_rfl, by kernel_rfl⟩
-- fleuron/fleuronref02.Text
noncomputable def c_F91_L1 : Code := Code.sub' bd_91 [1, 1, 1, 1, 1, 1, 1, 1, 1, 0, 0]
def mkF91_L1_X0_w0 (a1 : Int) (r6 : (List UInt8)) (r : List UInt8) (z s : St) : St := { tm := ovr s 56 0 [(2, (.str r)), (3, (.int .i64 (0 : Int)))], kb := 0, hp := [], nx := s.nx, lv := [], df := [] }
def Q_F91_L1 (a1 : Int) (r6 : (List UInt8)) (z : St) (r : (List UInt8)) (o : Option (Ex × St)) : Prop := (∃ s, o = some (.ret, mkF91_L1_X0_w0 a1 r6 r z s))
def F91_L1 (k : Nat) (a1 : Int) (r6 : (List UInt8)) : Nat → Int → Int → Option ((List UInt8))
  | 0, _, _ => none
  | m + 1, x21, x22 => (Option.bind (F114 k (w64 ((w64 (0 - ((mx2 a1 (w64 (0 - a1))).tmod (65536 : Int)))) * x22)) (65536 : Int)) fun r23 => (bif (decide ((w64 (0 - r23)) < x22)) then (Option.bind (F114 k (w64 ((w64 (0 - r23)) * (65536 : Int))) x22) fun r26 => (bif (r26 == ((mx2 a1 (w64 (0 - a1))).tmod (65536 : Int))) then (asrt (decide ((([45] : List UInt8) ++ r6).length + 1 < 2 ^ 62)) (Option.bind (F113 k (w64 (0 - r23)) x21) fun r30 => (asrt (decide (((([45] : List UInt8) ++ r6) ++ ([46] : List UInt8)).length + r30.length < 2 ^ 62)) (some (((([45] : List UInt8) ++ r6) ++ ([46] : List UInt8)) ++ r30))))) else (F91_L1 k a1 r6 m (w64 (x21 + (1 : Int))) (w64 (x22 * (10 : Int)))))) else (F91_L1 k a1 r6 m (w64 (x21 + (1 : Int))) (w64 (x22 * (10 : Int))))))
def mkF91_L1_v0 (a1 : Int) (r6 : (List UInt8)) (x21 : Int) (x22 : Int) (z s : St) : St := { tm := ovr s 56 0 [(4, (.str (([45] : List UInt8) ++ r6))), (5, (.int .i64 ((mx2 a1 (w64 (0 - a1))).tmod (65536 : Int)))), (6, (.int .i64 x21)), (7, (.int .i64 x22))], kb := 0, hp := [], nx := s.nx, lv := [], df := [] }
theorem F91_L1_v0_ok {k : Nat} {a1 : Int} {r6 : (List UInt8)} : ∀ {m : Nat} {x21 : Int} {x22 : Int} {z s : St} {r : (List UInt8)}, F91_L1 k a1 r6 m x21 x22 = some r → Q_F91_L1 a1 r6 z r (loopN (bEv Tryz.prog CC k 91 c_F91_L1) m (mkF91_L1_v0 a1 r6 x21 x22 z s)) := by
  intro m
  induction m with
  | zero => intro x21 x22 z s r h; exact T.no h
  | succ m ih => intro x21 x22 z s r h; unfold F91_L1 at h; exact (T.bd h fun r23 h24 h => (T.br h (fun h25 h => (T.bd h fun r26 h27 h => (T.br h (fun h28 h => (T.as h fun h29 h => (T.bd h fun r30 h31 h => (T.as h fun h32 h => (lpLf (E := EE) (Q := Q_F91_L1 a1 r6 z) (p := [.o (o_F114 r23), .c 0, Dt, .c 2, .o (o_F114 r26), .c 3, Dt, Dt, .o (o_F113 r30), .c 0, Dt]) (g := mkF91_L1_X0_w0 a1 r6 (((([45] : List UInt8) ++ r6) ++ ([46] : List UInt8)) ++ r30) z) h (cP (F114_ok h24) (cB h25 (cP (F114_ok h27) (cB h28 (cP h29 (cP (F113_ok h31) (cP h32 c0))))))) rfl (fun s2 => ⟨s2, rfl⟩) (by kernel_rfl)))))) (fun h28 h => (lpGo (E := EE) (Q := Q_F91_L1 a1 r6 z r) (p := [.o (o_F114 r23), .c 0, Dt, .c 2, .o (o_F114 r26), .c 3, Df]) (cP (F114_ok h24) (cB h25 (cP (F114_ok h27) (cB h28 c0)))) (fun s2 => ih (s := s2) h) (by kernel_rfl)))))) (fun h25 h => (lpGo (E := EE) (Q := Q_F91_L1 a1 r6 z r) (p := [.o (o_F114 r23), .c 0, Df, .c 6]) (cP (F114_ok h24) (cB h25 c0)) (fun s2 => ih (s := s2) h) (by kernel_rfl)))))
noncomputable def c_F91_L2 : Code := Code.sub' bd_91 [1, 1, 1, 1, 1, 1, 1, 1, 1, 0, 0]
def mkF91_L2_X0_w0 (a1 : Int) (r38 : (List UInt8)) (r : List UInt8) (z s : St) : St := { tm := ovr s 56 0 [(2, (.str r)), (3, (.int .i64 (0 : Int)))], kb := 0, hp := [], nx := s.nx, lv := [], df := [] }
def Q_F91_L2 (a1 : Int) (r38 : (List UInt8)) (z : St) (r : (List UInt8)) (o : Option (Ex × St)) : Prop := (∃ s, o = some (.ret, mkF91_L2_X0_w0 a1 r38 r z s))
def F91_L2 (k : Nat) (a1 : Int) (r38 : (List UInt8)) : Nat → Int → Int → Option ((List UInt8))
  | 0, _, _ => none
  | m + 1, x53, x54 => (Option.bind (F114 k (w64 ((w64 (0 - ((mx2 a1 (w64 (0 - a1))).tmod (65536 : Int)))) * x54)) (65536 : Int)) fun r55 => (bif (decide ((w64 (0 - r55)) < x54)) then (Option.bind (F114 k (w64 ((w64 (0 - r55)) * (65536 : Int))) x54) fun r58 => (bif (r58 == ((mx2 a1 (w64 (0 - a1))).tmod (65536 : Int))) then (asrt (decide ((([] : List UInt8) ++ r38).length + 1 < 2 ^ 62)) (Option.bind (F113 k (w64 (0 - r55)) x53) fun r62 => (asrt (decide (((([] : List UInt8) ++ r38) ++ ([46] : List UInt8)).length + r62.length < 2 ^ 62)) (some (((([] : List UInt8) ++ r38) ++ ([46] : List UInt8)) ++ r62))))) else (F91_L2 k a1 r38 m (w64 (x53 + (1 : Int))) (w64 (x54 * (10 : Int)))))) else (F91_L2 k a1 r38 m (w64 (x53 + (1 : Int))) (w64 (x54 * (10 : Int))))))
def mkF91_L2_v0 (a1 : Int) (r38 : (List UInt8)) (x53 : Int) (x54 : Int) (z s : St) : St := { tm := ovr s 56 0 [(4, (.str (([] : List UInt8) ++ r38))), (5, (.int .i64 ((mx2 a1 (w64 (0 - a1))).tmod (65536 : Int)))), (6, (.int .i64 x53)), (7, (.int .i64 x54))], kb := 0, hp := [], nx := s.nx, lv := [], df := [] }
theorem F91_L2_v0_ok {k : Nat} {a1 : Int} {r38 : (List UInt8)} : ∀ {m : Nat} {x53 : Int} {x54 : Int} {z s : St} {r : (List UInt8)}, F91_L2 k a1 r38 m x53 x54 = some r → Q_F91_L2 a1 r38 z r (loopN (bEv Tryz.prog CC k 91 c_F91_L2) m (mkF91_L2_v0 a1 r38 x53 x54 z s)) := by
  intro m
  induction m with
  | zero => intro x53 x54 z s r h; exact T.no h
  | succ m ih => intro x53 x54 z s r h; unfold F91_L2 at h; exact (T.bd h fun r55 h56 h => (T.br h (fun h57 h => (T.bd h fun r58 h59 h => (T.br h (fun h60 h => (T.as h fun h61 h => (T.bd h fun r62 h63 h => (T.as h fun h64 h => (lpLf (E := EE) (Q := Q_F91_L2 a1 r38 z) (p := [.o (o_F114 r55), .c 0, Dt, .c 2, .o (o_F114 r58), .c 3, Dt, Dt, .o (o_F113 r62), .c 0, Dt]) (g := mkF91_L2_X0_w0 a1 r38 (((([] : List UInt8) ++ r38) ++ ([46] : List UInt8)) ++ r62) z) h (cP (F114_ok h56) (cB h57 (cP (F114_ok h59) (cB h60 (cP h61 (cP (F113_ok h63) (cP h64 c0))))))) rfl (fun s2 => ⟨s2, rfl⟩) (by kernel_rfl)))))) (fun h60 h => (lpGo (E := EE) (Q := Q_F91_L2 a1 r38 z r) (p := [.o (o_F114 r55), .c 0, Dt, .c 2, .o (o_F114 r58), .c 3, Df]) (cP (F114_ok h56) (cB h57 (cP (F114_ok h59) (cB h60 c0)))) (fun s2 => ih (s := s2) h) (by kernel_rfl)))))) (fun h57 h => (lpGo (E := EE) (Q := Q_F91_L2 a1 r38 z r) (p := [.o (o_F114 r55), .c 0, Df, .c 6]) (cP (F114_ok h56) (cB h57 c0)) (fun s2 => ih (s := s2) h) (by kernel_rfl)))))
def o_F91 (r : List UInt8 × Int) : Out := .ret (.tup [(.str r.1), (.int .i64 r.2)])
def F91 : Nat → Int → Option (List UInt8 × Int)
  | 0, _ => none
  | k + 1, a1 => (Option.bind (F108 k false ([(.int .i64 a1)] : List AV)) fun r2 => (bif r2 then (bif (decide (a1 < (0 : Int))) then (Option.bind (F113 k (w64 ((mx2 a1 (w64 (0 - a1))).tdiv (65536 : Int))) (1 : Int)) fun r6 => (asrt (decide (1 + r6.length < 2 ^ 62)) (bif (((mx2 a1 (w64 (0 - a1))).tmod (65536 : Int)) == (0 : Int)) then (some ((([45] : List UInt8) ++ r6), (0 : Int))) else (Option.bind (F91_L1 k a1 r6 k (1 : Int) (10 : Int)) (fun r33 => (some (r33, (0 : Int)))))))) else (Option.bind (F113 k (w64 ((mx2 a1 (w64 (0 - a1))).tdiv (65536 : Int))) (1 : Int)) fun r38 => (asrt (decide (0 + r38.length < 2 ^ 62)) (bif (((mx2 a1 (w64 (0 - a1))).tmod (65536 : Int)) == (0 : Int)) then (some ((([] : List UInt8) ++ r38), (0 : Int))) else (Option.bind (F91_L2 k a1 r38 k (1 : Int) (10 : Int)) (fun r65 => (some (r65, (0 : Int))))))))) else (some (([] : List UInt8), (2 : Int)))))
noncomputable def se_F91_1 (k : Nat) (a1 : Int) (r2 : (Bool)) (r6 : (List UInt8)) : St := stOf (oS EE k 91 bd_91 (st0 Tryz.f91 [(.int .i64 a1)]) [.o (o_F112 r2), .c 0, Df, Dt, .c 0, .o (o_F113 r6), .c 0, Dt, .c 0, Df, .u 0, .u 0])
noncomputable def se_F91_2 (k : Nat) (a1 : Int) (r2 : (Bool)) (r38 : (List UInt8)) : St := stOf (oS EE k 91 bd_91 (st0 Tryz.f91 [(.int .i64 a1)]) [.o (o_F112 r2), .c 0, Df, Df, .c 0, .o (o_F113 r38), .c 0, Dt, .c 0, Df, .u 0, .u 0])
theorem F91_ok : ∀ {n : Nat} {a1 : Int} {r : List UInt8 × Int}, F91 n a1 = some r → evF Tryz.prog CC n 91 [(.int .i64 a1)] = some (o_F91 r) := by
  intro n
  cases n with
  | zero => intro a1 r h; exact T.no h
  | succ k => intro a1 r h; unfold F91 at h; exact (T.bd h fun r2 h3 h => (T.br h (fun h4 h => (T.br h (fun h5 h => (T.bd h fun r6 h7 h => (T.as h fun h8 h => (T.br h (fun h9 h => (fnLf (E := EE) h is_91 rfl [.o (o_F112 r2), .c 0, Df, Dt, .c 0, .o (o_F113 r6), .c 0, Dt, .c 0, Dt, .c 0] (cP (F112_ok h3) (cB (T.nt h4) (cB h5 (cP (F113_ok h7) (cP h8 (cB h9 c0)))))) (by kernel_rfl))) (fun h9 h => (T.bd h (fun r33 h34 h => ((fun q => Exists.elim q fun s35 e36 => (fnLf (E := EE) h is_91 rfl [.o (o_F112 r2), .c 0, Df, Dt, .c 0, .o (o_F113 r6), .c 0, Dt, .c 0, Df, .u 0, .l (.ret, mkF91_L1_X0_w0 a1 r6 r33 (litS [] []) s35), .c 0] (cP (F112_ok h3) (cB (T.nt h4) (cB h5 (cP (F113_ok h7) (cP h8 (cB h9 (cP e36 c0))))))) (by kernel_rfl))) (F91_L1_v0_ok (z := (litS [] [])) (s := (se_F91_1 k a1 r2 r6)) h34))))))))) (fun h5 h => (T.bd h fun r38 h39 h => (T.as h fun h40 h => (T.br h (fun h41 h => (fnLf (E := EE) h is_91 rfl [.o (o_F112 r2), .c 0, Df, Df, .c 0, .o (o_F113 r38), .c 0, Dt, .c 0, Dt, .c 0] (cP (F112_ok h3) (cB (T.nt h4) (cB h5 (cP (F113_ok h39) (cP h40 (cB h41 c0)))))) (by kernel_rfl))) (fun h41 h => (T.bd h (fun r65 h66 h => ((fun q => Exists.elim q fun s67 e68 => (fnLf (E := EE) h is_91 rfl [.o (o_F112 r2), .c 0, Df, Df, .c 0, .o (o_F113 r38), .c 0, Dt, .c 0, Df, .u 0, .l (.ret, mkF91_L2_X0_w0 a1 r38 r65 (litS [] []) s67), .c 0] (cP (F112_ok h3) (cB (T.nt h4) (cB h5 (cP (F113_ok h39) (cP h40 (cB h41 (cP e68 c0))))))) (by kernel_rfl))) (F91_L2_v0_ok (z := (litS [] [])) (s := (se_F91_2 k a1 r2 r38)) h66))))))))))) (fun h4 h => (fnLf (E := EE) h is_91 rfl [.o (o_F112 r2), .c 0, Dt, .c 0] (cP (F112_ok h3) (cB (T.nt h4) c0)) (by kernel_rfl)))))
noncomputable def bd_64 : Code := match Tryz.f64.body with | some c => c | none => .skip
theorem is_64 : FnIs Tryz.prog CC 64 Tryz.f64 bd_64 := ⟨by kernel_rfl, by kernel_rfl, by kernel_rfl⟩
-- fleuron/fleuronref12.PointText
def o_F64 (r : List UInt8) : Out := .ret (.str r)
def F64 : Nat → Int → Int → Option (List UInt8)
  | 0, _, _ => none
  | k + 1, a1, a2 => (Option.bind (F91 k a1) fun r3 => (Option.bind (F91 k a2) fun r5 => (asrt (decide (1 + r3.1.length < 2 ^ 62)) (asrt (decide ((([40] : List UInt8) ++ r3.1).length + 1 < 2 ^ 62)) (asrt (decide (((([40] : List UInt8) ++ r3.1) ++ ([44] : List UInt8)).length + r5.1.length < 2 ^ 62)) (asrt (decide ((((([40] : List UInt8) ++ r3.1) ++ ([44] : List UInt8)) ++ r5.1).length + 1 < 2 ^ 62)) (some ((((([40] : List UInt8) ++ r3.1) ++ ([44] : List UInt8)) ++ r5.1) ++ ([41] : List UInt8)))))))))
theorem F64_ok : ∀ {n : Nat} {a1 : Int} {a2 : Int} {r : List UInt8}, F64 n a1 a2 = some r → evF Tryz.prog CC n 64 [(.agg [(.int .i64 a1), (.int .i64 a2)])] = some (o_F64 r) := by
  intro n
  cases n with
  | zero => intro a1 a2 r h; exact T.no h
  | succ k => intro a1 a2 r h; unfold F64 at h; exact (T.bd h fun r3 h4 h => (T.bd h fun r5 h6 h => (T.as h fun h7 h => (T.as h fun h8 h => (T.as h fun h9 h => (T.as h fun h10 h => (fnLf (E := EE) h is_64 rfl [.o (o_F91 r3), .c 0, .o (o_F91 r5), .c 0, Dt, Dt, Dt, Dt, .c 0] (cP (F91_ok h4) (cP (F91_ok h6) (cP h7 (cP h8 (cP h9 (cP h10 c0)))))) (by kernel_rfl))))))))
noncomputable def bd_18 : Code := match Tryz.f18.body with | some c => c | none => .skip
theorem is_18 : FnIs Tryz.prog CC 18 Tryz.f18 bd_18 := ⟨by kernel_rfl, by kernel_rfl, by kernel_rfl⟩
-- fleuron/fleuronref12.Text
noncomputable def c_F18_L1 : Code := Code.sub' bd_18 [1, 1, 1, 0, 1, 0, 0]
def mkF18_L1_X0_w0 (a1 : Bool) (a2 : List AV) (a3 : Bool) (r : List AV) (z s : St) : St := { tm := ovr s 54 0 [(4, (.sl false 1 r (.own 16 (lvG z 0))))], kb := 0, hp := [jB s 0 1 true], nx := s.nx, lv := [(16, (lvG z 0), r.length, 5)], df := [] }
def Q_F18_L1 (a1 : Bool) (a2 : List AV) (a3 : Bool) (z : St) (r : (List AV)) (o : Option (Ex × St)) : Prop := (∃ s, o = some (.exit 0, mkF18_L1_X0_w0 a1 a2 a3 r z s))
def F18_L1 (k : Nat) (a1 : Bool) (a2 : List AV) (a3 : Bool) : Nat → List AV → Int → Option ((List AV))
  | 0, _, _ => none
  | m + 1, x99, x100 => (Option.bind (F61 k a1 a2 a3) fun r101 => (asrt (AV.cleanL a2) (bif (decide (x100 < r101)) then (Option.bind (F65 k a1 a2 a3 x100) fun r105 => (Option.bind (F64 k r105.2.2.2.2.2.2.1 r105.2.2.2.2.2.2.2) fun r107 => (bif a3 then (Option.bind (F61 k a1 a2 a3) fun r110 => (bif (x100 == (w64 (r110 - (1 : Int)))) then (Option.bind (F64 k r105.2.2.1 r105.2.2.2.1) fun r113 => (asrt (decide (11 + r113.length < 2 ^ 62)) (asrt (decide ((([46, 46, 99, 111, 110, 116, 114, 111, 108, 115, 32] : List UInt8) ++ r113).length + 5 < 2 ^ 62)) (Option.bind (F64 k r105.2.2.2.2.1 r105.2.2.2.2.2.1) fun r117 => (asrt (decide (((([46, 46, 99, 111, 110, 116, 114, 111, 108, 115, 32] : List UInt8) ++ r113) ++ ([32, 97, 110, 100, 32] : List UInt8)).length + r117.length < 2 ^ 62)) (asrt (decide ((((([46, 46, 99, 111, 110, 116, 114, 111, 108, 115, 32] : List UInt8) ++ r113) ++ ([32, 97, 110, 100, 32] : List UInt8)) ++ r117).length + 2 < 2 ^ 62)) (asrt (decide (((((([46, 46, 99, 111, 110, 116, 114, 111, 108, 115, 32] : List UInt8) ++ r113) ++ ([32, 97, 110, 100, 32] : List UInt8)) ++ r117) ++ ([46, 46] : List UInt8)).length + 5 < 2 ^ 62)) (asrt (decide ((x99.length + (ofBytes (((((([46, 46, 99, 111, 110, 116, 114, 111, 108, 115, 32] : List UInt8) ++ r113) ++ ([32, 97, 110, 100, 32] : List UInt8)) ++ r117) ++ ([46, 46] : List UInt8)) ++ ([99, 121, 99, 108, 101] : List UInt8))).length + 1) * (1 + 1) ≤ 2 ^ 36)) (F18_L1 k a1 a2 a3 m (x99 ++ (ofBytes (((((([46, 46, 99, 111, 110, 116, 114, 111, 108, 115, 32] : List UInt8) ++ r113) ++ ([32, 97, 110, 100, 32] : List UInt8)) ++ r117) ++ ([46, 46] : List UInt8)) ++ ([99, 121, 99, 108, 101] : List UInt8)))) (w64 (x100 + (1 : Int)))))))))))) else (Option.bind (F64 k r105.2.2.1 r105.2.2.2.1) fun r123 => (asrt (decide (11 + r123.length < 2 ^ 62)) (asrt (decide ((([46, 46, 99, 111, 110, 116, 114, 111, 108, 115, 32] : List UInt8) ++ r123).length + 5 < 2 ^ 62)) (Option.bind (F64 k r105.2.2.2.2.1 r105.2.2.2.2.2.1) fun r127 => (asrt (decide (((([46, 46, 99, 111, 110, 116, 114, 111, 108, 115, 32] : List UInt8) ++ r123) ++ ([32, 97, 110, 100, 32] : List UInt8)).length + r127.length < 2 ^ 62)) (asrt (decide ((((([46, 46, 99, 111, 110, 116, 114, 111, 108, 115, 32] : List UInt8) ++ r123) ++ ([32, 97, 110, 100, 32] : List UInt8)) ++ r127).length + 2 < 2 ^ 62)) (asrt (decide (((((([46, 46, 99, 111, 110, 116, 114, 111, 108, 115, 32] : List UInt8) ++ r123) ++ ([32, 97, 110, 100, 32] : List UInt8)) ++ r127) ++ ([46, 46] : List UInt8)).length + r107.length < 2 ^ 62)) (asrt (decide ((x99.length + (ofBytes (((((([46, 46, 99, 111, 110, 116, 114, 111, 108, 115, 32] : List UInt8) ++ r123) ++ ([32, 97, 110, 100, 32] : List UInt8)) ++ r127) ++ ([46, 46] : List UInt8)) ++ r107)).length + 1) * (1 + 1) ≤ 2 ^ 36)) (F18_L1 k a1 a2 a3 m (x99 ++ (ofBytes (((((([46, 46, 99, 111, 110, 116, 114, 111, 108, 115, 32] : List UInt8) ++ r123) ++ ([32, 97, 110, 100, 32] : List UInt8)) ++ r127) ++ ([46, 46] : List UInt8)) ++ r107))) (w64 (x100 + (1 : Int)))))))))))))) else (Option.bind (F64 k r105.2.2.1 r105.2.2.2.1) fun r133 => (asrt (decide (11 + r133.length < 2 ^ 62)) (asrt (decide ((([46, 46, 99, 111, 110, 116, 114, 111, 108, 115, 32] : List UInt8) ++ r133).length + 5 < 2 ^ 62)) (Option.bind (F64 k r105.2.2.2.2.1 r105.2.2.2.2.2.1) fun r137 => (asrt (decide (((([46, 46, 99, 111, 110, 116, 114, 111, 108, 115, 32] : List UInt8) ++ r133) ++ ([32, 97, 110, 100, 32] : List UInt8)).length + r137.length < 2 ^ 62)) (asrt (decide ((((([46, 46, 99, 111, 110, 116, 114, 111, 108, 115, 32] : List UInt8) ++ r133) ++ ([32, 97, 110, 100, 32] : List UInt8)) ++ r137).length + 2 < 2 ^ 62)) (asrt (decide (((((([46, 46, 99, 111, 110, 116, 114, 111, 108, 115, 32] : List UInt8) ++ r133) ++ ([32, 97, 110, 100, 32] : List UInt8)) ++ r137) ++ ([46, 46] : List UInt8)).length + r107.length < 2 ^ 62)) (asrt (decide ((x99.length + (ofBytes (((((([46, 46, 99, 111, 110, 116, 114, 111, 108, 115, 32] : List UInt8) ++ r133) ++ ([32, 97, 110, 100, 32] : List UInt8)) ++ r137) ++ ([46, 46] : List UInt8)) ++ r107)).length + 1) * (1 + 1) ≤ 2 ^ 36)) (F18_L1 k a1 a2 a3 m (x99 ++ (ofBytes (((((([46, 46, 99, 111, 110, 116, 114, 111, 108, 115, 32] : List UInt8) ++ r133) ++ ([32, 97, 110, 100, 32] : List UInt8)) ++ r137) ++ ([46, 46] : List UInt8)) ++ r107))) (w64 (x100 + (1 : Int))))))))))))))) else (some x99))))
def mkF18_L1_v0 (a1 : Bool) (a2 : List AV) (a3 : Bool) (x99 : List AV) (x100 : Int) (z s : St) : St := { tm := ovr s 54 0 [(1, (.pt 1 (blkG z 0) 0 0)), (4, (.sl false 1 x99 (.own 16 (lvG z 0)))), (5, (.int .i64 x100))], kb := 0, hp := [{ k := 1, g := (blkG z 0), n := 2, els := ([(.agg [(.sl a1 2 a2 .no), (.bool a3)])] : List AV), ty := 25, va := true, fz := false }], nx := s.nx, lv := [(16, (lvG z 0), x99.length, 5)], df := [] }
theorem F18_L1_v0_ok {k : Nat} {a1 : Bool} {a2 : List AV} {a3 : Bool} : ∀ {m : Nat} {x99 : List AV} {x100 : Int} {z s : St} {r : (List AV)}, F18_L1 k a1 a2 a3 m x99 x100 = some r → Q_F18_L1 a1 a2 a3 z r (loopN (bEv Tryz.prog CC k 18 c_F18_L1) m (mkF18_L1_v0 a1 a2 a3 x99 x100 z s)) := by
  intro m
  induction m with
  | zero => intro x99 x100 z s r h; exact T.no h
  | succ m ih => intro x99 x100 z s r h; unfold F18_L1 at h; exact (T.bd h fun r101 h102 h => (T.as h fun h103 h => (T.br h (fun h104 h => (T.bd h fun r105 h106 h => (T.bd h fun r107 h108 h => (T.br h (fun h109 h => (T.bd h fun r110 h111 h => (T.br h (fun h112 h => (T.bd h fun r113 h114 h => (T.as h fun h115 h => (T.as h fun h116 h => (T.bd h fun r117 h118 h => (T.as h fun h119 h => (T.as h fun h120 h => (T.as h fun h121 h => (T.as h fun h122 h => (lpGo (E := EE) (Q := Q_F18_L1 a1 a2 a3 z r) (p := [.o (o_F42 r101), Dt, Dt, .o (o_F65 r105), Dt, .c 0, .o (o_F64 r107), .c 0, Dt, .c 1, .o (o_F42 r110), Dt, .c 2, Dt, .c 0, .o (o_F64 r113), .c 0, Dt, Dt, .c 0, .o (o_F64 r117), .c 0, Dt, Dt, Dt, Dt]) (cP (T.an (T.an h103 rfl) rfl) (cP (F42_ok h102) (cB h104 (cP (T.an (T.an h103 rfl) rfl) (cP (F65_ok h106) (cP (F64_ok h108) (cB h109 (cP (T.an (T.an h103 rfl) rfl) (cP (F42_ok h111) (cB h112 (cP (F64_ok h114) (cP h115 (cP h116 (cP (F64_ok h118) (cP h119 (cP h120 (cP h121 (cP h122 c0)))))))))))))))))) (fun s2 => ih (s := s2) h) (by kernel_rfl))))))))))) (fun h112 h => (T.bd h fun r123 h124 h => (T.as h fun h125 h => (T.as h fun h126 h => (T.bd h fun r127 h128 h => (T.as h fun h129 h => (T.as h fun h130 h => (T.as h fun h131 h => (T.as h fun h132 h => (lpGo (E := EE) (Q := Q_F18_L1 a1 a2 a3 z r) (p := [.o (o_F42 r101), Dt, Dt, .o (o_F65 r105), Dt, .c 0, .o (o_F64 r107), .c 0, Dt, .c 1, .o (o_F42 r110), Dt, .c 2, Df, .c 0, .o (o_F64 r123), .c 0, Dt, Dt, .c 0, .o (o_F64 r127), .c 0, Dt, Dt, Dt, Dt]) (cP (T.an (T.an h103 rfl) rfl) (cP (F42_ok h102) (cB h104 (cP (T.an (T.an h103 rfl) rfl) (cP (F65_ok h106) (cP (F64_ok h108) (cB h109 (cP (T.an (T.an h103 rfl) rfl) (cP (F42_ok h111) (cB h112 (cP (F64_ok h124) (cP h125 (cP h126 (cP (F64_ok h128) (cP h129 (cP h130 (cP h131 (cP h132 c0)))))))))))))))))) (fun s2 => ih (s := s2) h) (by kernel_rfl)))))))))))))) (fun h109 h => (T.bd h fun r133 h134 h => (T.as h fun h135 h => (T.as h fun h136 h => (T.bd h fun r137 h138 h => (T.as h fun h139 h => (T.as h fun h140 h => (T.as h fun h141 h => (T.as h fun h142 h => (lpGo (E := EE) (Q := Q_F18_L1 a1 a2 a3 z r) (p := [.o (o_F42 r101), Dt, Dt, .o (o_F65 r105), Dt, .c 0, .o (o_F64 r107), .c 0, Df, .c 6, .o (o_F64 r133), .c 0, Dt, Dt, .c 0, .o (o_F64 r137), .c 0, Dt, Dt, Dt, Dt]) (cP (T.an (T.an h103 rfl) rfl) (cP (F42_ok h102) (cB h104 (cP (T.an (T.an h103 rfl) rfl) (cP (F65_ok h106) (cP (F64_ok h108) (cB h109 (cP (F64_ok h134) (cP h135 (cP h136 (cP (F64_ok h138) (cP h139 (cP h140 (cP h141 (cP h142 c0))))))))))))))) (fun s2 => ih (s := s2) h) (by kernel_rfl))))))))))))))) (fun h104 h => (lpLf (E := EE) (Q := Q_F18_L1 a1 a2 a3 z) (p := [.o (o_F42 r101), Dt, Df]) (g := mkF18_L1_X0_w0 a1 a2 a3 x99 z) h (cP (T.an (T.an h103 rfl) rfl) (cP (F42_ok h102) (cB h104 c0))) rfl (fun s2 => ⟨s2, rfl⟩) (by kernel_rfl))))))
def o_F18 (r : List UInt8 × Int) : Out := .ret (.tup [(.str r.1), (.int .i64 r.2)])
def F18 : Nat → Bool → List AV → Bool → Option (List UInt8 × Int)
  | 0, _, _, _ => none
  | k + 1, a1, a2, a3 => (Option.bind (F21 k a1 a2 a3) fun r4 => (asrt (AV.cleanL a2) (bif r4 then (asrt (decide (0 ≤ (0 : Int) ∧ (0 : Int) < ((a2.length : Nat) : Int))) (asrt (okE true [.int .i64, .int .i64] a2 0) (Option.bind (F64 k (eI a2 0 0) (eI a2 0 1)) fun r10 => (Option.bind (F18_L1 k a1 a2 a3 k (ofBytes r10) (0 : Int)) (fun r143 => (asrt (isBytes r143) (some ((bytesD r143), (0 : Int))))))))) else (some (([] : List UInt8), (2 : Int))))))
noncomputable def se_F18_1 (k : Nat) (a1 : Bool) (a2 : List AV) (a3 : Bool) (r4 : (Bool)) (r10 : (List UInt8)) : St := stOf (oS EE k 18 bd_18 (st0 Tryz.f18 [(.agg [(.sl a1 2 a2 .no), (.bool a3)])]) [.o (o_F21 r4), Dt, Df, Dt, Dt, .o (o_F64 r10), .c 0, .u 0, .u 0])
theorem F18_ok : ∀ {n : Nat} {a1 : Bool} {a2 : List AV} {a3 : Bool} {r : List UInt8 × Int}, F18 n a1 a2 a3 = some r → evF Tryz.prog CC n 18 [(.agg [(.sl a1 2 a2 .no), (.bool a3)])] = some (o_F18 r) := by
  intro n
  cases n with
  | zero => intro a1 a2 a3 r h; exact T.no h
  | succ k => intro a1 a2 a3 r h; unfold F18 at h; exact (T.bd h fun r4 h5 h => (T.as h fun h6 h => (T.br h (fun h7 h => (T.as h fun h8 h => (T.as h fun h9 h => (T.bd h fun r10 h11 h => (T.bd h (fun r143 h144 h => ((fun q => Exists.elim q fun s145 e146 => (T.as h fun h148 h => (fnLf (E := EE) h is_18 rfl [.o (o_F21 r4), Dt, Df, Dt, Dt, .o (o_F64 r10), .c 0, .u 0, .l (.exit 0, mkF18_L1_X0_w0 a1 a2 a3 r143 (litS [litB (blkG (se_F18_1 k a1 a2 a3 r4 r10) 0)] [litT 16 (lvG (se_F18_1 k a1 a2 a3 r4 r10) 0)]) s145), Dt, .c 0] (cP (T.an (T.an h6 rfl) rfl) (cP (F21_ok h5) (cB (T.nt h7) (cP h8 (cP h9 (cP (F64_ok h11) (cP e146 (cP h148 c0)))))))) (by kernel_rfl)))) (F18_L1_v0_ok (z := (litS [litB (blkG (se_F18_1 k a1 a2 a3 r4 r10) 0)] [litT 16 (lvG (se_F18_1 k a1 a2 a3 r4 r10) 0)])) (s := (se_F18_1 k a1 a2 a3 r4 r10)) h144)))))))) (fun h7 h => (fnLf (E := EE) h is_18 rfl [.o (o_F21 r4), Dt, Dt, .c 0] (cP (T.an (T.an h6 rfl) rfl) (cP (F21_ok h5) (cB (T.nt h7) c0))) (by kernel_rfl))))))
noncomputable def bd_69 : Code := match Tryz.f69.body with | some c => c | none => .skip
theorem is_69 : FnIs Tryz.prog CC 69 Tryz.f69 bd_69 := ⟨by kernel_rfl, by kernel_rfl, by kernel_rfl⟩
-- fleuron/fleuronref12.cut
noncomputable def c_F69_L1 : Code := Code.sub' bd_69 [1, 0, 1, 0, 0]
def mkF69_L1_X0_w0 (a1 : List UInt8) (a2 : List UInt8) (r : List UInt8 × List UInt8) (z s : St) : St := { tm := ovr s 36 0 [(4, (.str r.1)), (5, (.str r.2)), (6, (.bool true))], kb := 0, hp := [], nx := s.nx, lv := [], df := [] }
def mkF69_L1_X1_w0 (a1 : List UInt8) (a2 : List UInt8) (r : Unit) (z s : St) : St := { tm := ovr s 36 0 [(0, (.str a1))], kb := 0, hp := [], nx := s.nx, lv := [], df := [] }
def Q_F69_L1 (a1 : List UInt8) (a2 : List UInt8) (z : St) (r : (List UInt8 × List UInt8) ⊕ (Unit)) (o : Option (Ex × St)) : Prop := match r with
  | (.inl r) => (∃ s, o = some (.ret, mkF69_L1_X0_w0 a1 a2 r z s))
  | (.inr r) => (∃ s, o = some (.exit 0, mkF69_L1_X1_w0 a1 a2 r z s))
def F69_L1 (k : Nat) (a1 : List UInt8) (a2 : List UInt8) : Nat → Int → Option ((List UInt8 × List UInt8) ⊕ (Unit))
  | 0, _ => none
  | m + 1, x15 => (bif (decide ((w64 (x15 + ((a2.length : Nat) : Int))) ≤ ((a1.length : Nat) : Int))) then (asrt (decide (0 ≤ x15 ∧ x15 ≤ (w64 (x15 + ((a2.length : Nat) : Int))) ∧ (w64 (x15 + ((a2.length : Nat) : Int))) ≤ ((a1.length : Nat) : Int))) (bif ((sub (Int.toNat x15) (Int.toNat (w64 (x15 + ((a2.length : Nat) : Int)))) a1) == a2) then (asrt (decide (0 ≤ (0 : Int) ∧ (0 : Int) ≤ x15 ∧ x15 ≤ ((a1.length : Nat) : Int))) (asrt (decide (0 ≤ (w64 (x15 + ((a2.length : Nat) : Int))) ∧ (w64 (x15 + ((a2.length : Nat) : Int))) ≤ ((a1.length : Nat) : Int) ∧ ((a1.length : Nat) : Int) ≤ ((a1.length : Nat) : Int))) (some (.inl ((sub 0 (Int.toNat x15) a1), (sub (Int.toNat (w64 (x15 + ((a2.length : Nat) : Int)))) a1.length a1)))))) else (F69_L1 k a1 a2 m (w64 (x15 + (1 : Int)))))) else (some (.inr ())))
def mkF69_L1_v0 (a1 : List UInt8) (a2 : List UInt8) (x15 : Int) (z s : St) : St := { tm := ovr s 36 0 [(0, (.str a1)), (1, (.str a2)), (7, (.int .i64 x15))], kb := 0, hp := [], nx := s.nx, lv := [], df := [] }
theorem F69_L1_v0_ok {k : Nat} {a1 : List UInt8} {a2 : List UInt8} : ∀ {m : Nat} {x15 : Int} {z s : St} {r : (List UInt8 × List UInt8) ⊕ (Unit)}, F69_L1 k a1 a2 m x15 = some r → Q_F69_L1 a1 a2 z r (loopN (bEv Tryz.prog CC k 69 c_F69_L1) m (mkF69_L1_v0 a1 a2 x15 z s)) := by
  intro m
  induction m with
  | zero => intro x15 z s r h; exact T.no h
  | succ m ih => intro x15 z s r h; unfold F69_L1 at h; exact (T.br h (fun h16 h => (T.as h fun h17 h => (T.br h (fun h18 h => (T.as h fun h19 h => (T.as h fun h20 h => (lpLf (E := EE) (Q := Q_F69_L1 a1 a2 z) (p := [Dt, Dt, Dt, Dt, Dt]) (g := mkF69_L1_X0_w0 a1 a2 ((sub 0 (Int.toNat x15) a1), (sub (Int.toNat (w64 (x15 + ((a2.length : Nat) : Int)))) a1.length a1)) z) h (cB h16 (cP h17 (cB h18 (cP h19 (cP h20 c0))))) rfl (fun s2 => ⟨s2, rfl⟩) (by kernel_rfl))))) (fun h18 h => (lpGo (E := EE) (Q := Q_F69_L1 a1 a2 z r) (p := [Dt, Dt, Df]) (cB h16 (cP h17 (cB h18 c0))) (fun s2 => ih (s := s2) h) (by kernel_rfl)))))) (fun h16 h => (lpLf (E := EE) (Q := Q_F69_L1 a1 a2 z) (p := [Df]) (g := mkF69_L1_X1_w0 a1 a2 () z) h (cB h16 c0) rfl (fun s2 => ⟨s2, rfl⟩) (by kernel_rfl))))
def o_F69 (r : List UInt8 × List UInt8 × Bool) : Out := .ret (.tup [(.str r.1), (.str r.2.1), (.bool r.2.2)])
def F69 : Nat → List UInt8 → List UInt8 → Option (List UInt8 × List UInt8 × Bool)
  | 0, _, _ => none
  | k + 1, a1, a2 => (Option.bind (F69_L1 k a1 a2 k (0 : Int)) (Sum.elim (fun r21 => (some (r21.1, r21.2, true))) (fun r26 => (some (a1, ([] : List UInt8), false)))))
noncomputable def se_F69_1 (k : Nat) (a1 : List UInt8) (a2 : List UInt8) : St := stOf (oS EE k 69 bd_69 (st0 Tryz.f69 [(.str a1), (.str a2)]) [.u 0, .u 0])
theorem F69_ok : ∀ {n : Nat} {a1 : List UInt8} {a2 : List UInt8} {r : List UInt8 × List UInt8 × Bool}, F69 n a1 a2 = some r → evF Tryz.prog CC n 69 [(.str a1), (.str a2)] = some (o_F69 r) := by
  intro n
  cases n with
  | zero => intro a1 a2 r h; exact T.no h
  | succ k => intro a1 a2 r h; unfold F69 at h; exact (T.b2 h (fun r21 h22 h => ((fun q => Exists.elim q fun s23 e24 => (fnLf (E := EE) h is_69 rfl [.u 0, .l (.ret, mkF69_L1_X0_w0 a1 a2 r21 (litS [] []) s23), .c 0] (cP e24 c0) (by kernel_rfl))) (F69_L1_v0_ok (z := (litS [] [])) (s := (se_F69_1 k a1 a2)) h22))) (fun r26 h27 h => ((fun q => Exists.elim q fun s28 e29 => (fnLf (E := EE) h is_69 rfl [.u 0, .l (.exit 0, mkF69_L1_X1_w0 a1 a2 r26 (litS [] []) s28), .c 0] (cP e29 c0) (by kernel_rfl))) (F69_L1_v0_ok (z := (litS [] [])) (s := (se_F69_1 k a1 a2)) h27))))
noncomputable def bd_120 : Code := match Tryz.f120.body with | some c => c | none => .skip
theorem is_120 : FnIs Tryz.prog CC 120 Tryz.f120 bd_120 := ⟨by kernel_rfl, by kernel_rfl, by kernel_rfl⟩
-- fleuron/fleuronref02.whole
noncomputable def c_F120_L1 : Code := Code.sub' bd_120 [1, 1, 1, 0, 1, 0, 0]
def mkF120_L1_X0_w0 (a1 : List UInt8) (r : Unit) (z s : St) : St := { tm := ovr s 38 0 [(2, (.int .i64 (-1 : Int)))], kb := 0, hp := [], nx := s.nx, lv := [], df := [] }
def mkF120_L1_X1_w0 (a1 : List UInt8) (r : Int) (z s : St) : St := { tm := ovr s 38 0 [(3, (.int .i64 r))], kb := 0, hp := [], nx := s.nx, lv := [], df := [] }
def Q_F120_L1 (a1 : List UInt8) (z : St) (r : (Unit) ⊕ (Int)) (o : Option (Ex × St)) : Prop := match r with
  | (.inl r) => (∃ s, o = some (.ret, mkF120_L1_X0_w0 a1 r z s))
  | (.inr r) => (∃ s, o = some (.exit 0, mkF120_L1_X1_w0 a1 r z s))
def F120_L1 (k : Nat) (a1 : List UInt8) : Nat → Int → Int → Option ((Unit) ⊕ (Int))
  | 0, _, _ => none
  | m + 1, x15, x16 => (bif (decide (x16 < ((a1.length : Nat) : Int))) then (asrt (decide (0 ≤ x16 ∧ x16 < ((a1.length : Nat) : Int))) (bif (decide ((((a1.getD (Int.toNat x16) 0).toNat : Nat) : Int) < (48 : Int))) then (some (.inl ())) else (bif (decide ((57 : Int) < (((a1.getD (Int.toNat x16) 0).toNat : Nat) : Int))) then (some (.inl ())) else (F120_L1 k a1 m (w64 ((w64 ((10 : Int) * x15)) + (w64 ((IntKind.u8.wrap ((((a1.getD (Int.toNat x16) 0).toNat : Nat) : Int) - (48 : Int))))))) (w64 (x16 + (1 : Int))))))) else (some (.inr x15)))
def mkF120_L1_v0 (a1 : List UInt8) (x15 : Int) (x16 : Int) (z s : St) : St := { tm := ovr s 38 0 [(0, (.str a1)), (3, (.int .i64 x15)), (4, (.int .i64 x16))], kb := 0, hp := [], nx := s.nx, lv := [], df := [] }
theorem F120_L1_v0_ok {k : Nat} {a1 : List UInt8} : ∀ {m : Nat} {x15 : Int} {x16 : Int} {z s : St} {r : (Unit) ⊕ (Int)}, F120_L1 k a1 m x15 x16 = some r → Q_F120_L1 a1 z r (loopN (bEv Tryz.prog CC k 120 c_F120_L1) m (mkF120_L1_v0 a1 x15 x16 z s)) := by
  intro m
  induction m with
  | zero => intro x15 x16 z s r h; exact T.no h
  | succ m ih => intro x15 x16 z s r h; unfold F120_L1 at h; exact (T.br h (fun h17 h => (T.as h fun h18 h => (T.br h (fun h19 h => (lpLf (E := EE) (Q := Q_F120_L1 a1 z) (p := [Dt, Dt, Dt, .c 4]) (g := mkF120_L1_X0_w0 a1 () z) h (cB h17 (cP h18 (cB h19 c0))) rfl (fun s2 => ⟨s2, rfl⟩) (by kernel_rfl))) (fun h19 h => (T.br h (fun h20 h => (lpLf (E := EE) (Q := Q_F120_L1 a1 z) (p := [Dt, Dt, Df, .c 1, Dt, .c 1, Dt]) (g := mkF120_L1_X0_w0 a1 () z) h (cB h17 (cP h18 (cB h19 (cP h18 (cB h20 c0))))) rfl (fun s2 => ⟨s2, rfl⟩) (by kernel_rfl))) (fun h20 h => (lpGo (E := EE) (Q := Q_F120_L1 a1 z r) (p := [Dt, Dt, Df, .c 1, Dt, .c 1, Df, Dt]) (cB h17 (cP h18 (cB h19 (cP h18 (cB h20 (cP h18 c0)))))) (fun s2 => ih (s := s2) h) (by kernel_rfl)))))))) (fun h17 h => (lpLf (E := EE) (Q := Q_F120_L1 a1 z) (p := [Df]) (g := mkF120_L1_X1_w0 a1 x15 z) h (cB h17 c0) rfl (fun s2 => ⟨s2, rfl⟩) (by kernel_rfl))))
def o_F120 (r : Int) : Out := .ret (.int .i64 r)
def F120 : Nat → List UInt8 → Option (Int)
  | 0, _ => none
  | k + 1, a1 => (bif (decide (((a1.length : Nat) : Int) < (1 : Int))) then (some (-1 : Int)) else (bif (decide ((9 : Int) < ((a1.length : Nat) : Int))) then (some (-1 : Int)) else (Option.bind (F120_L1 k a1 k (0 : Int) (0 : Int)) (Sum.elim (fun r21 => (some (-1 : Int))) (fun r26 => (some r26))))))
noncomputable def se_F120_1 (k : Nat) (a1 : List UInt8) : St := stOf (oS EE k 120 bd_120 (st0 Tryz.f120 [(.str a1)]) [Df, .c 2, Df, .u 0, .u 0])
theorem F120_ok : ∀ {n : Nat} {a1 : List UInt8} {r : Int}, F120 n a1 = some r → evF Tryz.prog CC n 120 [(.str a1)] = some (o_F120 r) := by
  intro n
  cases n with
  | zero => intro a1 r h; exact T.no h
  | succ k => intro a1 r h; unfold F120 at h; exact (T.br h (fun h2 h => (fnLf (E := EE) h is_120 rfl [Dt, .c 4] (cB h2 c0) (by kernel_rfl))) (fun h2 h => (T.br h (fun h3 h => (fnLf (E := EE) h is_120 rfl [Df, .c 2, Dt, .c 0] (cB h2 (cB h3 c0)) (by kernel_rfl))) (fun h3 h => (T.b2 h (fun r21 h22 h => ((fun q => Exists.elim q fun s23 e24 => (fnLf (E := EE) h is_120 rfl [Df, .c 2, Df, .u 0, .l (.ret, mkF120_L1_X0_w0 a1 r21 (litS [] []) s23), .c 0] (cB h2 (cB h3 (cP e24 c0))) (by kernel_rfl))) (F120_L1_v0_ok (z := (litS [] [])) (s := (se_F120_1 k a1)) h22))) (fun r26 h27 h => ((fun q => Exists.elim q fun s28 e29 => (fnLf (E := EE) h is_120 rfl [Df, .c 2, Df, .u 0, .l (.exit 0, mkF120_L1_X1_w0 a1 r26 (litS [] []) s28), .c 0] (cB h2 (cB h3 (cP e29 c0))) (by kernel_rfl))) (F120_L1_v0_ok (z := (litS [] [])) (s := (se_F120_1 k a1)) h27))))))))
noncomputable def bd_121 : Code := match Tryz.f121.body with | some c => c | none => .skip
theorem is_121 : FnIs Tryz.prog CC 121 Tryz.f121 bd_121 := ⟨by kernel_rfl, by kernel_rfl, by kernel_rfl⟩
-- fleuron/fleuronref02.told
def o_F121 (r : Int × Int) : Out := .ret (.tup [(.int .i64 r.1), (.int .i64 r.2)])
theorem F121_ok : ∀ {n : Nat} {a1 : Int} {r : Int × Int}, F118 n a1 = some r → evF Tryz.prog CC n 121 [(.int .i64 a1)] = some (o_F121 r) := by
  intro n
  cases n with
  | zero => intro a1 r h; exact T.no h
  | succ k => intro a1 r h; unfold F118 at h; exact (T.bd h fun r2 h3 h => (T.br h (fun h4 h => (fnLf (E := EE) h is_121 rfl [.o (o_F112 r2), .c 0, Df, .c 0] (cP (F112_ok h3) (cB (T.nt h4) c0)) (by kernel_rfl))) (fun h4 h => (fnLf (E := EE) h is_121 rfl [.o (o_F112 r2), .c 0, Dt, .c 0] (cP (F112_ok h3) (cB (T.nt h4) c0)) (by kernel_rfl)))))
noncomputable def bd_96 : Code := match Tryz.f96.body with | some c => c | none => .skip
theorem is_96 : FnIs Tryz.prog CC 96 Tryz.f96 bd_96 := ⟨by kernel_rfl, by kernel_rfl, by kernel_rfl⟩
-- fleuron/fleuronref02.Parse
noncomputable def c_F96_L1 : Code := Code.sub' bd_96 [1, 1, 1, 1, 0, 0, 0]
def mkF96_L1_X0_w0 (a1 : List UInt8) (r : Int) (z s : St) : St := { tm := ovr s 83 0 [(0, (.str (sub 1 a1.length a1))), (4, (.bool ((((a1.getD 0 0).toNat : Nat) : Int) == (45 : Int)))), (5, (.int .i64 r))], kb := 0, hp := [], nx := s.nx, lv := [], df := [] }
def Q_F96_L1 (a1 : List UInt8) (z : St) (r : (Int)) (o : Option (Ex × St)) : Prop := (∃ s, o = some (.exit 0, mkF96_L1_X0_w0 a1 r z s))
def F96_L1 (k : Nat) (a1 : List UInt8) : Nat → Int → Option ((Int))
  | 0, _ => none
  | m + 1, x14 => (bif (decide (x14 < (((sub 1 a1.length a1).length : Nat) : Int))) then (asrt (decide (0 ≤ x14 ∧ x14 < (((sub 1 a1.length a1).length : Nat) : Int))) (bif (((((sub 1 a1.length a1).getD (Int.toNat x14) 0).toNat : Nat) : Int) != (46 : Int)) then (F96_L1 k a1 m (w64 (x14 + (1 : Int)))) else (some x14))) else (some x14))
def mkF96_L1_v0 (a1 : List UInt8) (x14 : Int) (z s : St) : St := { tm := ovr s 83 0 [(0, (.str (sub 1 a1.length a1))), (4, (.bool ((((a1.getD 0 0).toNat : Nat) : Int) == (45 : Int)))), (5, (.int .i64 x14))], kb := 0, hp := [], nx := s.nx, lv := [], df := [] }
theorem F96_L1_v0_ok {k : Nat} {a1 : List UInt8} : ∀ {m : Nat} {x14 : Int} {z s : St} {r : (Int)}, F96_L1 k a1 m x14 = some r → Q_F96_L1 a1 z r (loopN (bEv Tryz.prog CC k 96 c_F96_L1) m (mkF96_L1_v0 a1 x14 z s)) := by
  intro m
  induction m with
  | zero => intro x14 z s r h; exact T.no h
  | succ m ih => intro x14 z s r h; unfold F96_L1 at h; exact (T.br h (fun h15 h => (T.as h fun h16 h => (T.br h (fun h17 h => (lpGo (E := EE) (Q := Q_F96_L1 a1 z r) (p := [Dt, .c 1, Dt, .c 1, Dt]) (cB h15 (cP h16 (cB h17 c0))) (fun s2 => ih (s := s2) h) (by kernel_rfl))) (fun h17 h => (lpLf (E := EE) (Q := Q_F96_L1 a1 z) (p := [Dt, .c 1, Dt, .c 1, Df]) (g := mkF96_L1_X0_w0 a1 x14 z) h (cB h15 (cP h16 (cB h17 c0))) rfl (fun s2 => ⟨s2, rfl⟩) (by kernel_rfl)))))) (fun h15 h => (lpLf (E := EE) (Q := Q_F96_L1 a1 z) (p := [Df, .c 4]) (g := mkF96_L1_X0_w0 a1 x14 z) h (cB h15 c0) rfl (fun s2 => ⟨s2, rfl⟩) (by kernel_rfl))))
noncomputable def c_F96_L2 : Code := Code.sub' bd_96 [1, 1, 1, 1, 1, 1, 1, 1, 1, 0, 1, 0, 1, 1, 1, 0, 0]
def mkF96_L2_X0_w0 (a1 : List UInt8) (r25 : (Int)) (r30 : (Int)) (r : Int) (z s : St) : St := { tm := ovr s 83 0 [(4, (.bool ((((a1.getD 0 0).toNat : Nat) : Int) == (45 : Int)))), (6, (.int .i64 r25)), (7, (.int .i64 r30)), (8, (.int .i64 r))], kb := 0, hp := [], nx := s.nx, lv := [], df := [] }
def Q_F96_L2 (a1 : List UInt8) (r25 : (Int)) (r30 : (Int)) (z : St) (r : (Int)) (o : Option (Ex × St)) : Prop := (∃ s, o = some (.exit 2, mkF96_L2_X0_w0 a1 r25 r30 r z s))
def F96_L2 (k : Nat) (a1 : List UInt8) : Nat → Int → Int → Option ((Int))
  | 0, _, _ => none
  | m + 1, x38, x39 => (bif (decide (x39 < (((sub 1 a1.length a1).length : Nat) : Int))) then (F96_L2 k a1 m (w64 (x38 * (10 : Int))) (w64 (x39 + (1 : Int)))) else (some x38))
def mkF96_L2_v0 (a1 : List UInt8) (r25 : (Int)) (r30 : (Int)) (x38 : Int) (x39 : Int) (z s : St) : St := { tm := ovr s 83 0 [(0, (.str (sub 1 a1.length a1))), (4, (.bool ((((a1.getD 0 0).toNat : Nat) : Int) == (45 : Int)))), (6, (.int .i64 r25)), (7, (.int .i64 r30)), (8, (.int .i64 x38)), (9, (.int .i64 x39))], kb := 0, hp := [], nx := s.nx, lv := [], df := [] }
theorem F96_L2_v0_ok {k : Nat} {a1 : List UInt8} {r25 : (Int)} {r30 : (Int)} : ∀ {m : Nat} {x38 : Int} {x39 : Int} {z s : St} {r : (Int)}, F96_L2 k a1 m x38 x39 = some r → Q_F96_L2 a1 r25 r30 z r (loopN (bEv Tryz.prog CC k 96 c_F96_L2) m (mkF96_L2_v0 a1 r25 r30 x38 x39 z s)) := by
  intro m
  induction m with
  | zero => intro x38 x39 z s r h; exact T.no h
  | succ m ih => intro x38 x39 z s r h; unfold F96_L2 at h; exact (T.br h (fun h40 h => (lpGo (E := EE) (Q := Q_F96_L2 a1 r25 r30 z r) (p := [Dt]) (cB h40 c0) (fun s2 => ih (s := s2) h) (by kernel_rfl))) (fun h40 h => (lpLf (E := EE) (Q := Q_F96_L2 a1 r25 r30 z) (p := [Df]) (g := mkF96_L2_X0_w0 a1 r25 r30 x38 z) h (cB h40 c0) rfl (fun s2 => ⟨s2, rfl⟩) (by kernel_rfl))))
noncomputable def c_F96_L3 : Code := Code.sub' bd_96 [1, 1, 1, 1, 1, 1, 1, 1, 1, 0, 1, 0, 1, 1, 1, 0, 0]
def mkF96_L3_X0_w0 (a1 : List UInt8) (r56 : (Int)) (r61 : (Int)) (r : Int) (z s : St) : St := { tm := ovr s 83 0 [(4, (.bool ((((a1.getD 0 0).toNat : Nat) : Int) == (45 : Int)))), (6, (.int .i64 r56)), (7, (.int .i64 r61)), (8, (.int .i64 r))], kb := 0, hp := [], nx := s.nx, lv := [], df := [] }
def Q_F96_L3 (a1 : List UInt8) (r56 : (Int)) (r61 : (Int)) (z : St) (r : (Int)) (o : Option (Ex × St)) : Prop := (∃ s, o = some (.exit 2, mkF96_L3_X0_w0 a1 r56 r61 r z s))
def F96_L3 (k : Nat) (a1 : List UInt8) : Nat → Int → Int → Option ((Int))
  | 0, _, _ => none
  | m + 1, x69, x70 => (bif (decide (x70 < (((sub 1 a1.length a1).length : Nat) : Int))) then (F96_L3 k a1 m (w64 (x69 * (10 : Int))) (w64 (x70 + (1 : Int)))) else (some x69))
def mkF96_L3_v0 (a1 : List UInt8) (r56 : (Int)) (r61 : (Int)) (x69 : Int) (x70 : Int) (z s : St) : St := { tm := ovr s 83 0 [(0, (.str (sub 1 a1.length a1))), (4, (.bool ((((a1.getD 0 0).toNat : Nat) : Int) == (45 : Int)))), (6, (.int .i64 r56)), (7, (.int .i64 r61)), (8, (.int .i64 x69)), (9, (.int .i64 x70))], kb := 0, hp := [], nx := s.nx, lv := [], df := [] }
theorem F96_L3_v0_ok {k : Nat} {a1 : List UInt8} {r56 : (Int)} {r61 : (Int)} : ∀ {m : Nat} {x69 : Int} {x70 : Int} {z s : St} {r : (Int)}, F96_L3 k a1 m x69 x70 = some r → Q_F96_L3 a1 r56 r61 z r (loopN (bEv Tryz.prog CC k 96 c_F96_L3) m (mkF96_L3_v0 a1 r56 r61 x69 x70 z s)) := by
  intro m
  induction m with
  | zero => intro x69 x70 z s r h; exact T.no h
  | succ m ih => intro x69 x70 z s r h; unfold F96_L3 at h; exact (T.br h (fun h71 h => (lpGo (E := EE) (Q := Q_F96_L3 a1 r56 r61 z r) (p := [Dt]) (cB h71 c0) (fun s2 => ih (s := s2) h) (by kernel_rfl))) (fun h71 h => (lpLf (E := EE) (Q := Q_F96_L3 a1 r56 r61 z) (p := [Df]) (g := mkF96_L3_X0_w0 a1 r56 r61 x69 z) h (cB h71 c0) rfl (fun s2 => ⟨s2, rfl⟩) (by kernel_rfl))))
noncomputable def c_F96_L4 : Code := Code.sub' bd_96 [1, 1, 1, 1, 1, 1, 1, 1, 1, 0, 1, 0, 1, 1, 1, 0, 0]
def mkF96_L4_X0_w0 (a1 : List UInt8) (r87 : (Int)) (r : Int) (z s : St) : St := { tm := ovr s 83 0 [(4, (.bool ((((a1.getD 0 0).toNat : Nat) : Int) == (45 : Int)))), (6, (.int .i64 (0 : Int))), (7, (.int .i64 r87)), (8, (.int .i64 r))], kb := 0, hp := [], nx := s.nx, lv := [], df := [] }
def Q_F96_L4 (a1 : List UInt8) (r87 : (Int)) (z : St) (r : (Int)) (o : Option (Ex × St)) : Prop := (∃ s, o = some (.exit 2, mkF96_L4_X0_w0 a1 r87 r z s))
def F96_L4 (k : Nat) (a1 : List UInt8) : Nat → Int → Int → Option ((Int))
  | 0, _, _ => none
  | m + 1, x95, x96 => (bif (decide (x96 < (((sub 1 a1.length a1).length : Nat) : Int))) then (F96_L4 k a1 m (w64 (x95 * (10 : Int))) (w64 (x96 + (1 : Int)))) else (some x95))
def mkF96_L4_v0 (a1 : List UInt8) (r87 : (Int)) (x95 : Int) (x96 : Int) (z s : St) : St := { tm := ovr s 83 0 [(0, (.str (sub 1 a1.length a1))), (4, (.bool ((((a1.getD 0 0).toNat : Nat) : Int) == (45 : Int)))), (6, (.int .i64 (0 : Int))), (7, (.int .i64 r87)), (8, (.int .i64 x95)), (9, (.int .i64 x96))], kb := 0, hp := [], nx := s.nx, lv := [], df := [] }
theorem F96_L4_v0_ok {k : Nat} {a1 : List UInt8} {r87 : (Int)} : ∀ {m : Nat} {x95 : Int} {x96 : Int} {z s : St} {r : (Int)}, F96_L4 k a1 m x95 x96 = some r → Q_F96_L4 a1 r87 z r (loopN (bEv Tryz.prog CC k 96 c_F96_L4) m (mkF96_L4_v0 a1 r87 x95 x96 z s)) := by
  intro m
  induction m with
  | zero => intro x95 x96 z s r h; exact T.no h
  | succ m ih => intro x95 x96 z s r h; unfold F96_L4 at h; exact (T.br h (fun h97 h => (lpGo (E := EE) (Q := Q_F96_L4 a1 r87 z r) (p := [Dt]) (cB h97 c0) (fun s2 => ih (s := s2) h) (by kernel_rfl))) (fun h97 h => (lpLf (E := EE) (Q := Q_F96_L4 a1 r87 z) (p := [Df]) (g := mkF96_L4_X0_w0 a1 r87 x95 z) h (cB h97 c0) rfl (fun s2 => ⟨s2, rfl⟩) (by kernel_rfl))))
noncomputable def c_F96_L5 : Code := Code.sub' bd_96 [1, 1, 1, 1, 0, 0, 0]
def mkF96_L5_X0_w0 (a1 : List UInt8) (r : Int) (z s : St) : St := { tm := ovr s 83 0 [(0, (.str a1)), (4, (.bool ((((a1.getD 0 0).toNat : Nat) : Int) == (45 : Int)))), (5, (.int .i64 r))], kb := 0, hp := [], nx := s.nx, lv := [], df := [] }
def Q_F96_L5 (a1 : List UInt8) (z : St) (r : (Int)) (o : Option (Ex × St)) : Prop := (∃ s, o = some (.exit 0, mkF96_L5_X0_w0 a1 r z s))
def F96_L5 (k : Nat) (a1 : List UInt8) : Nat → Int → Option ((Int))
  | 0, _ => none
  | m + 1, x119 => (bif (decide (x119 < ((a1.length : Nat) : Int))) then (asrt (decide (0 ≤ x119 ∧ x119 < ((a1.length : Nat) : Int))) (bif ((((a1.getD (Int.toNat x119) 0).toNat : Nat) : Int) != (46 : Int)) then (F96_L5 k a1 m (w64 (x119 + (1 : Int)))) else (some x119))) else (some x119))
def mkF96_L5_v0 (a1 : List UInt8) (x119 : Int) (z s : St) : St := { tm := ovr s 83 0 [(0, (.str a1)), (4, (.bool ((((a1.getD 0 0).toNat : Nat) : Int) == (45 : Int)))), (5, (.int .i64 x119))], kb := 0, hp := [], nx := s.nx, lv := [], df := [] }
theorem F96_L5_v0_ok {k : Nat} {a1 : List UInt8} : ∀ {m : Nat} {x119 : Int} {z s : St} {r : (Int)}, F96_L5 k a1 m x119 = some r → Q_F96_L5 a1 z r (loopN (bEv Tryz.prog CC k 96 c_F96_L5) m (mkF96_L5_v0 a1 x119 z s)) := by
  intro m
  induction m with
  | zero => intro x119 z s r h; exact T.no h
  | succ m ih => intro x119 z s r h; unfold F96_L5 at h; exact (T.br h (fun h120 h => (T.as h fun h121 h => (T.br h (fun h122 h => (lpGo (E := EE) (Q := Q_F96_L5 a1 z r) (p := [Dt, .c 1, Dt, .c 1, Dt]) (cB h120 (cP h121 (cB h122 c0))) (fun s2 => ih (s := s2) h) (by kernel_rfl))) (fun h122 h => (lpLf (E := EE) (Q := Q_F96_L5 a1 z) (p := [Dt, .c 1, Dt, .c 1, Df]) (g := mkF96_L5_X0_w0 a1 x119 z) h (cB h120 (cP h121 (cB h122 c0))) rfl (fun s2 => ⟨s2, rfl⟩) (by kernel_rfl)))))) (fun h120 h => (lpLf (E := EE) (Q := Q_F96_L5 a1 z) (p := [Df, .c 4]) (g := mkF96_L5_X0_w0 a1 x119 z) h (cB h120 c0) rfl (fun s2 => ⟨s2, rfl⟩) (by kernel_rfl))))
noncomputable def c_F96_L6 : Code := Code.sub' bd_96 [1, 1, 1, 1, 1, 1, 1, 1, 1, 0, 1, 0, 1, 1, 1, 0, 0]
def mkF96_L6_X0_w0 (a1 : List UInt8) (r130 : (Int)) (r135 : (Int)) (r : Int) (z s : St) : St := { tm := ovr s 83 0 [(4, (.bool ((((a1.getD 0 0).toNat : Nat) : Int) == (45 : Int)))), (6, (.int .i64 r130)), (7, (.int .i64 r135)), (8, (.int .i64 r))], kb := 0, hp := [], nx := s.nx, lv := [], df := [] }
def Q_F96_L6 (a1 : List UInt8) (r130 : (Int)) (r135 : (Int)) (z : St) (r : (Int)) (o : Option (Ex × St)) : Prop := (∃ s, o = some (.exit 2, mkF96_L6_X0_w0 a1 r130 r135 r z s))
def F96_L6 (k : Nat) (a1 : List UInt8) : Nat → Int → Int → Option ((Int))
  | 0, _, _ => none
  | m + 1, x143, x144 => (bif (decide (x144 < ((a1.length : Nat) : Int))) then (F96_L6 k a1 m (w64 (x143 * (10 : Int))) (w64 (x144 + (1 : Int)))) else (some x143))
def mkF96_L6_v0 (a1 : List UInt8) (r130 : (Int)) (r135 : (Int)) (x143 : Int) (x144 : Int) (z s : St) : St := { tm := ovr s 83 0 [(0, (.str a1)), (4, (.bool ((((a1.getD 0 0).toNat : Nat) : Int) == (45 : Int)))), (6, (.int .i64 r130)), (7, (.int .i64 r135)), (8, (.int .i64 x143)), (9, (.int .i64 x144))], kb := 0, hp := [], nx := s.nx, lv := [], df := [] }
theorem F96_L6_v0_ok {k : Nat} {a1 : List UInt8} {r130 : (Int)} {r135 : (Int)} : ∀ {m : Nat} {x143 : Int} {x144 : Int} {z s : St} {r : (Int)}, F96_L6 k a1 m x143 x144 = some r → Q_F96_L6 a1 r130 r135 z r (loopN (bEv Tryz.prog CC k 96 c_F96_L6) m (mkF96_L6_v0 a1 r130 r135 x143 x144 z s)) := by
  intro m
  induction m with
  | zero => intro x143 x144 z s r h; exact T.no h
  | succ m ih => intro x143 x144 z s r h; unfold F96_L6 at h; exact (T.br h (fun h145 h => (lpGo (E := EE) (Q := Q_F96_L6 a1 r130 r135 z r) (p := [Dt]) (cB h145 c0) (fun s2 => ih (s := s2) h) (by kernel_rfl))) (fun h145 h => (lpLf (E := EE) (Q := Q_F96_L6 a1 r130 r135 z) (p := [Df]) (g := mkF96_L6_X0_w0 a1 r130 r135 x143 z) h (cB h145 c0) rfl (fun s2 => ⟨s2, rfl⟩) (by kernel_rfl))))
noncomputable def c_F96_L7 : Code := Code.sub' bd_96 [1, 1, 1, 1, 1, 1, 1, 1, 1, 0, 1, 0, 1, 1, 1, 0, 0]
def mkF96_L7_X0_w0 (a1 : List UInt8) (r161 : (Int)) (r166 : (Int)) (r : Int) (z s : St) : St := { tm := ovr s 83 0 [(4, (.bool ((((a1.getD 0 0).toNat : Nat) : Int) == (45 : Int)))), (6, (.int .i64 r161)), (7, (.int .i64 r166)), (8, (.int .i64 r))], kb := 0, hp := [], nx := s.nx, lv := [], df := [] }
def Q_F96_L7 (a1 : List UInt8) (r161 : (Int)) (r166 : (Int)) (z : St) (r : (Int)) (o : Option (Ex × St)) : Prop := (∃ s, o = some (.exit 2, mkF96_L7_X0_w0 a1 r161 r166 r z s))
def F96_L7 (k : Nat) (a1 : List UInt8) : Nat → Int → Int → Option ((Int))
  | 0, _, _ => none
  | m + 1, x174, x175 => (bif (decide (x175 < ((a1.length : Nat) : Int))) then (F96_L7 k a1 m (w64 (x174 * (10 : Int))) (w64 (x175 + (1 : Int)))) else (some x174))
def mkF96_L7_v0 (a1 : List UInt8) (r161 : (Int)) (r166 : (Int)) (x174 : Int) (x175 : Int) (z s : St) : St := { tm := ovr s 83 0 [(0, (.str a1)), (4, (.bool ((((a1.getD 0 0).toNat : Nat) : Int) == (45 : Int)))), (6, (.int .i64 r161)), (7, (.int .i64 r166)), (8, (.int .i64 x174)), (9, (.int .i64 x175))], kb := 0, hp := [], nx := s.nx, lv := [], df := [] }
theorem F96_L7_v0_ok {k : Nat} {a1 : List UInt8} {r161 : (Int)} {r166 : (Int)} : ∀ {m : Nat} {x174 : Int} {x175 : Int} {z s : St} {r : (Int)}, F96_L7 k a1 m x174 x175 = some r → Q_F96_L7 a1 r161 r166 z r (loopN (bEv Tryz.prog CC k 96 c_F96_L7) m (mkF96_L7_v0 a1 r161 r166 x174 x175 z s)) := by
  intro m
  induction m with
  | zero => intro x174 x175 z s r h; exact T.no h
  | succ m ih => intro x174 x175 z s r h; unfold F96_L7 at h; exact (T.br h (fun h176 h => (lpGo (E := EE) (Q := Q_F96_L7 a1 r161 r166 z r) (p := [Dt]) (cB h176 c0) (fun s2 => ih (s := s2) h) (by kernel_rfl))) (fun h176 h => (lpLf (E := EE) (Q := Q_F96_L7 a1 r161 r166 z) (p := [Df]) (g := mkF96_L7_X0_w0 a1 r161 r166 x174 z) h (cB h176 c0) rfl (fun s2 => ⟨s2, rfl⟩) (by kernel_rfl))))
noncomputable def c_F96_L8 : Code := Code.sub' bd_96 [1, 1, 1, 1, 1, 1, 1, 1, 1, 0, 1, 0, 1, 1, 1, 0, 0]
def mkF96_L8_X0_w0 (a1 : List UInt8) (r192 : (Int)) (r : Int) (z s : St) : St := { tm := ovr s 83 0 [(4, (.bool ((((a1.getD 0 0).toNat : Nat) : Int) == (45 : Int)))), (6, (.int .i64 (0 : Int))), (7, (.int .i64 r192)), (8, (.int .i64 r))], kb := 0, hp := [], nx := s.nx, lv := [], df := [] }
def Q_F96_L8 (a1 : List UInt8) (r192 : (Int)) (z : St) (r : (Int)) (o : Option (Ex × St)) : Prop := (∃ s, o = some (.exit 2, mkF96_L8_X0_w0 a1 r192 r z s))
def F96_L8 (k : Nat) (a1 : List UInt8) : Nat → Int → Int → Option ((Int))
  | 0, _, _ => none
  | m + 1, x200, x201 => (bif (decide (x201 < ((a1.length : Nat) : Int))) then (F96_L8 k a1 m (w64 (x200 * (10 : Int))) (w64 (x201 + (1 : Int)))) else (some x200))
def mkF96_L8_v0 (a1 : List UInt8) (r192 : (Int)) (x200 : Int) (x201 : Int) (z s : St) : St := { tm := ovr s 83 0 [(0, (.str a1)), (4, (.bool ((((a1.getD 0 0).toNat : Nat) : Int) == (45 : Int)))), (6, (.int .i64 (0 : Int))), (7, (.int .i64 r192)), (8, (.int .i64 x200)), (9, (.int .i64 x201))], kb := 0, hp := [], nx := s.nx, lv := [], df := [] }
theorem F96_L8_v0_ok {k : Nat} {a1 : List UInt8} {r192 : (Int)} : ∀ {m : Nat} {x200 : Int} {x201 : Int} {z s : St} {r : (Int)}, F96_L8 k a1 m x200 x201 = some r → Q_F96_L8 a1 r192 z r (loopN (bEv Tryz.prog CC k 96 c_F96_L8) m (mkF96_L8_v0 a1 r192 x200 x201 z s)) := by
  intro m
  induction m with
  | zero => intro x200 x201 z s r h; exact T.no h
  | succ m ih => intro x200 x201 z s r h; unfold F96_L8 at h; exact (T.br h (fun h202 h => (lpGo (E := EE) (Q := Q_F96_L8 a1 r192 z r) (p := [Dt]) (cB h202 c0) (fun s2 => ih (s := s2) h) (by kernel_rfl))) (fun h202 h => (lpLf (E := EE) (Q := Q_F96_L8 a1 r192 z) (p := [Df]) (g := mkF96_L8_X0_w0 a1 r192 x200 z) h (cB h202 c0) rfl (fun s2 => ⟨s2, rfl⟩) (by kernel_rfl))))
noncomputable def c_F96_L9 : Code := Code.sub' bd_96 [1, 1, 1, 1, 0, 0, 0]
def mkF96_L9_X0_w0 (a1 : List UInt8) (r : Int) (z s : St) : St := { tm := ovr s 83 0 [(0, (.str a1)), (4, (.bool false)), (5, (.int .i64 r))], kb := 0, hp := [], nx := s.nx, lv := [], df := [] }
def Q_F96_L9 (a1 : List UInt8) (z : St) (r : (Int)) (o : Option (Ex × St)) : Prop := (∃ s, o = some (.exit 0, mkF96_L9_X0_w0 a1 r z s))
def F96_L9 (k : Nat) (a1 : List UInt8) : Nat → Int → Option ((Int))
  | 0, _ => none
  | m + 1, x224 => (bif (decide (x224 < ((a1.length : Nat) : Int))) then (asrt (decide (0 ≤ x224 ∧ x224 < ((a1.length : Nat) : Int))) (bif ((((a1.getD (Int.toNat x224) 0).toNat : Nat) : Int) != (46 : Int)) then (F96_L9 k a1 m (w64 (x224 + (1 : Int)))) else (some x224))) else (some x224))
def mkF96_L9_v0 (a1 : List UInt8) (x224 : Int) (z s : St) : St := { tm := ovr s 83 0 [(0, (.str a1)), (4, (.bool false)), (5, (.int .i64 x224))], kb := 0, hp := [], nx := s.nx, lv := [], df := [] }
theorem F96_L9_v0_ok {k : Nat} {a1 : List UInt8} : ∀ {m : Nat} {x224 : Int} {z s : St} {r : (Int)}, F96_L9 k a1 m x224 = some r → Q_F96_L9 a1 z r (loopN (bEv Tryz.prog CC k 96 c_F96_L9) m (mkF96_L9_v0 a1 x224 z s)) := by
  intro m
  induction m with
  | zero => intro x224 z s r h; exact T.no h
  | succ m ih => intro x224 z s r h; unfold F96_L9 at h; exact (T.br h (fun h225 h => (T.as h fun h226 h => (T.br h (fun h227 h => (lpGo (E := EE) (Q := Q_F96_L9 a1 z r) (p := [Dt, .c 1, Dt, .c 1, Dt]) (cB h225 (cP h226 (cB h227 c0))) (fun s2 => ih (s := s2) h) (by kernel_rfl))) (fun h227 h => (lpLf (E := EE) (Q := Q_F96_L9 a1 z) (p := [Dt, .c 1, Dt, .c 1, Df]) (g := mkF96_L9_X0_w0 a1 x224 z) h (cB h225 (cP h226 (cB h227 c0))) rfl (fun s2 => ⟨s2, rfl⟩) (by kernel_rfl)))))) (fun h225 h => (lpLf (E := EE) (Q := Q_F96_L9 a1 z) (p := [Df, .c 4]) (g := mkF96_L9_X0_w0 a1 x224 z) h (cB h225 c0) rfl (fun s2 => ⟨s2, rfl⟩) (by kernel_rfl))))
noncomputable def c_F96_L10 : Code := Code.sub' bd_96 [1, 1, 1, 1, 1, 1, 1, 1, 1, 0, 1, 0, 1, 1, 1, 0, 0]
def mkF96_L10_X0_w0 (a1 : List UInt8) (r235 : (Int)) (r240 : (Int)) (r : Int) (z s : St) : St := { tm := ovr s 83 0 [(4, (.bool false)), (6, (.int .i64 r235)), (7, (.int .i64 r240)), (8, (.int .i64 r))], kb := 0, hp := [], nx := s.nx, lv := [], df := [] }
def Q_F96_L10 (a1 : List UInt8) (r235 : (Int)) (r240 : (Int)) (z : St) (r : (Int)) (o : Option (Ex × St)) : Prop := (∃ s, o = some (.exit 2, mkF96_L10_X0_w0 a1 r235 r240 r z s))
end Go.Proofs.YtjfpcgkgdajcfaaGreatDoor
