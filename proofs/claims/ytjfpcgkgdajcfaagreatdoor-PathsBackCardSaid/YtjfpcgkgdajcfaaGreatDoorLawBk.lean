/-
  The law PathsBack: the statement, for every input, under what its row lists; and its tied card. Conditions: none but the row's own ('laid').
-/
import Derived.Test.YtjfpcgkgdajcfaaGreatDoorCards
import Derived.Test.YtjfpcgkgdajcfaaGreatDoorTie
import Derived.WalkKit
import Derived.ProofKit
import Derived.OpenShut
import Derived.ShutString
import Derived.ChangeOld
import Derived.Below
import Derived.SizedLaws
import Derived.Deep.DeepHandedRow
import Derived.Lib.LaidTab
import Derived.LaidMore
import Derived.Lay
import Derived.SevenTiedAt
import Derived.Stop.Joined
import Derived.Stop.LaidErr
import Derived.Test.YtjfpcgkgdajcfaaGreatDoorConP
import Derived.Test.YtjfpcgkgdajcfaaGreatDoorEvR
import Derived.Test.YtjfpcgkgdajcfaaGreatDoorPureBk
namespace Go.Proofs.YtjfpcgkgdajcfaaGreatDoor.pathsBack
open Go.ChangeShapes Go.WideShapes Go.ChangeAt Go.RowKit Go.Ev
set_option linter.unusedVariables false
theorem own : ownKnob Tryz.prog.godebug = none := by kernel_rfl
theorem gPow : Tryz.prog.globalNamed "internal/strconv.uint64pow10" = some 5 := by kernel_rfl
theorem gTy : (Tryz.prog.globals[5]?).map (·.type) = some 189 := by kernel_rfl
theorem same : (Rows.laid_internal_strconv_uint64pow10 : DataW Unit) = Lib.tabData .u64 Lib.pow10Tab := by kernel_rfl
/-- What the row's list gives. -/
theorem laid_ok {W : World} (h : laidMetH Tryz.prog Rows.pathsBackRow.laid W) (hsh : W.ShapedOpen Tryz.prog) : LaidOK W := by
  rw [MakeChecks.laidMetH_plain _ _ _ (by kernel_rfl)] at h
  unfold Rows.pathsBackRow at h
  simp only [same] at h
  exact ⟨Lib.tabIs_of_head gPow gTy Tryz.underlying189 Tryz.underlying140 (by kernel_rfl) (by kernel_rfl) h.tail.tail, Tryz.laysM145.s1_3 W hsh⟩
theorem reads (os : Os) {H : Type} (enc : TypeId × Value → H) : ∃ places, DataW.whole enc Tryz.prog ((World.laidAll Tryz.prog os Rows.pathsBackRow.laid).forCall (fun _ _ => 0) ⟨#[], #[Value.agg #[.slice none 0 0, .bool false], Value.string ByteArray.empty], []⟩).memory Tryz.f5.params.toList Rows.pathsBackSpec.vars false #[Value.agg #[.slice none 0 0, .bool false], Value.string ByteArray.empty].toList 8 = some ([.agg [.nil, .lit (.bool false)], .lit (.string [])], [], places) :=
  ⟨[], by kernel_rfl⟩
theorem witness (os : Os) {H : Type} (enc : TypeId × Value → H) : ∃ (w : World) (tape : Tape) (i : Input), w.os = os ∧ (w.forCall tape i).Shaped Tryz.checked.prog ∧ i.vars = [] ∧ Input.okWide Tryz.checked.prog (w.forCall tape i) .any w.heap.size 5 i ∧
    (OpenSpec.ofChange Rows.pathsBackSpec).preRow enc Tryz.checked.prog Tryz.f5 Rows.pathsBackRow.domain false Rows.pathsBackRow.laid (w.forCall tape i).memory i.args ∧ ({ modest := false } : Assume).holds Tryz.checked.prog (lone (Frame.enter Tryz.checked.prog 5 i.args .normal) [] (w.forCall tape i)) := by
  obtain ⟨places, hx⟩ := reads os enc
  have hok : Input.okWideB Tryz.checked.prog ((World.laidAll Tryz.prog os Rows.pathsBackRow.laid).forCall (fun _ _ => 0) ⟨#[], #[.agg #[.slice none 0 0, .bool false], .string ByteArray.empty], []⟩) 5 ⟨#[], #[.agg #[.slice none 0 0, .bool false], .string ByteArray.empty], []⟩ = true := by kernel_rfl
  exact ⟨World.laidAll Tryz.prog os Rows.pathsBackRow.laid, fun _ _ => 0, ⟨#[], #[.agg #[.slice none 0 0, .bool false], .string ByteArray.empty], []⟩, World.laidAll_os _ _ _, World.shaped_of_ZipB (by kernel_rfl) (by kernel_rfl), rfl, (Input.okWide_of_okWideB hok).2,
    OpenSpec.preRow_of_cond 8 hx (by kernel_rfl) (fun k hk => by cases hk) (by kernel_rfl) (by rw [MakeChecks.laidMetH_plain _ _ _ (by kernel_rfl)]; exact laidMet_laidAll _ (by kernel_rfl) (by kernel_rfl)), by
    simp only [Assume.holds]
    exact ⟨by simp, by simp, fun _ => Modest.zero, by simp, by simp⟩⟩
theorem laidOut : laidOutB Tryz.prog = true := by kernel_rfl
theorem readable : ∀ t ∈ [25, 9], Tryz.prog.readableRec t = true ∧ t < Tryz.prog.types.size := by
  intro t ht
  have hall : ([25, 9].all fun u => Tryz.prog.readableRec u && decide (u < Tryz.prog.types.size)) = true := by kernel_rfl
  have := List.all_eq_true.1 hall t ht
  rw [Bool.and_eq_true] at this
  exact ⟨this.1, of_decide_eq_true this.2⟩
set_option maxRecDepth 100000 in
theorem lifted (os : Os) (started : os.Started) (H : Type) (enc : TypeId × Value → H) (F : Stop.Interp) :
    ReturnsInHanded {} Tryz.checked os 5 .any ((OpenSpec.ofChange Rows.pathsBackSpec).preRow enc Tryz.prog Tryz.f5 Rows.pathsBackRow.domain false Rows.pathsBackRow.laid) (((OpenSpec.ofChange Rows.pathsBackSpec).at F).post enc Tryz.prog Tryz.f5 false true false false) := by
  refine returnsInHanded_of_row (C := Tryz.checked) (s := OpenSpec.ofChange Rows.pathsBackSpec) own started (by kernel_rfl) Tryz.func5 (witness os enc) ?_
  intro W base args ds gs before hval0 hW _ _ hsz0 hL hsh _
  have hval : ∀ (j : Nat) t v, Tryz.f5.params[j]? = some t → args[j]? = some v → Value.okWide Tryz.prog W .any base t v := hval0
  have hW' := hW
  obtain ⟨p, q, hA0, hV, rfl, hfz, hnd⟩ := hW
  have hA : DataW.TrodAll enc Tryz.prog W 0 (fun _ => true) true Tryz.f5.params.toList args.toList ds p := hA0
  rw [Tryz.params5] at hA hval
  have hA2 := hA
  obtain ⟨v0, vs0, d0, ds0, p0, q0, hargs, rfl, rfl, h0, r0⟩ := trodAll_cons hA
  obtain ⟨v1, vs1, d1, ds1, p1, q1, rfl, rfl, rfl, h1, r1⟩ := trodAll_cons r0
  obtain ⟨rfl, rfl, rfl⟩ := trodAll_nil r1
  obtain rfl : args = #[v0, v1] := by cases args; simp_all
  obtain ⟨rfl, rfl⟩ := trodVars_none hV
  have ho0 : Opn H enc Tryz.prog W (fun _ => true) true 25 ((Bool × List (Int × Int)) × Bool) (fun p => .agg [.sl p.1.1 2 (p.1.2.map encP) .no, .bool p.2]) (fun p => ((p.1.1 = true → p.1.2 = []) ∧ p.1.2.length ≤ maxLen ∧ ∀ x ∈ p.1.2, (Lit.int .i64 x.1).wf = true ∧ (Lit.int .i64 x.2).wf = true) ∧ True) := opn_two (e1 := fun p : Bool × List (Int × Int) => AV.sl p.1 2 (p.2.map encP) .no) (e2 := AV.bool) Tryz.underlying25 rfl rfl (by kernel_rfl) (by kernel_rfl) rfl rfl (g1 := fun p => (p.1 = true → p.2 = []) ∧ p.2.length ≤ maxLen ∧ ∀ x ∈ p.2, (Lit.int .i64 x.1).wf = true ∧ (Lit.int .i64 x.2).wf = true) (g2 := fun _ => True) (opn_slice Tryz.underlying22 (by kernel_rfl) (by decide) (fun _ => rfl) (opnN_two (e1 := AV.int .i64) (e2 := AV.int .i64) Tryz.underlying40 rfl rfl (by kernel_rfl) (by kernel_rfl) rfl rfl (opn_int Tryz.underlying3) (opn_int Tryz.underlying3))) (opn_bool Tryz.underlying4).opn
  obtain ⟨cs0, rfl, _, _⟩ : ∃ cs, v0 = .agg cs ∧ cs.size = Tryz.prog.cellsOf 25 ∧ Row.okWide Tryz.prog W .any base 25 cs := by have := hval 0 25 _ rfl rfl; unfold Value.okWide at this; rw [Tryz.underlying25] at this; exact this
  obtain ⟨x0, hx0, hg0⟩ := ho0.rep h0 (sp_okWide (hval 0 25 _ rfl rfl)) (Or.inl ⟨_, rfl, fun _ => ⟨_, rfl⟩⟩)
  have ho1 : Opn H enc Tryz.prog W (fun _ => true) true 9 (List UInt8) AV.str (fun l => l.length ≤ maxLen) := (opn_str Tryz.underlying9).opn
  obtain ⟨x1, hx1, hg1⟩ := ho1.rep h1 (sp_okWide (hval 1 9 _ rfl rfl)) (Or.inr ⟨by cases v1 <;> first | rfl | (exact absurd (hval 1 9 _ rfl rfl) (by simp [Value.okWide, Cell.okWide, Cell.ok, Tryz.underlying9])), fun _ => rfl⟩)
  have hev := F5_ok (pathsBack_plain x0.1.1 x0.1.2 x0.2 x1 hg0.1.1)
  obtain ⟨hok, hcall⟩ := (ev_sound (W0 := W) (ext_ok (laid_ok hL hsh)) (extD_ok W) catch_ok (by kernel_rfl) 13001).1 5 _ _ hev
  refine (hcall (gW W) W #[.agg cs0, v1] ⟨Nat.le_refl _, fun _ _ => rfl⟩ (held_gW W) (.cons hx0 <| .cons hx1 <| .nil _) (by simp [AV.cleanL, AV.clean])).mono fun e W' hp => ?_
  obtain ⟨g1, _, _, bel, _, he, _⟩ := hp
  have hret : e = .returned (.bool true) := by
    cases e with
    | returned v => exact congrArg _ (by cases he; rfl)
    | panicked ch => exact he.elim
    | outgrown => exact he.elim
  subst hret
  have hback := trodAll_below (enc := enc) laidOut bel _ _ _ _ readable hA2 (DataW.TrodAll.lt hA2)
  exact ⟨_, rfl, _, _, _, [], _, [], hW', trodAll_mk1 (shut_bool Tryz.underlying4 _), hback, rfl, bel.frame _, fun h => by cases h⟩
theorem said : Rows.PathsBackSaid :=
  OpenClaim.holds_of_cond 5 Tryz.f5 rfl rfl rfl rfl rfl rfl rfl ⟨rfl, rfl, rfl, rfl, rfl⟩ rfl rfl rfl rfl rfl (by kernel_rfl) Tryz.func5 (by kernel_rfl)
    (of_decide_eq_true (by kernel_rfl)) (by unfold Func.isWrapper; first | (rw [if_pos (by decide +kernel)]; kernel_rfl) | (rw [if_neg (by decide +kernel)]; exact ⟨rfl, rfl⟩))
    (fun os started H enc _ F => by rw [OpenClaim.pre_eq_preRow]; exact lifted os started H enc F)
theorem plain (f : FuncId) (fn : Func) (hf : Tryz.pinned.checked.prog.funcNamed Rows.pathsBackRow.func = some f) (hfn : Tryz.pinned.checked.prog.funcs[f]? = some fn) :
    true = Tryz.pinned.checked.prog.looks [] ∧ ∀ (j : Nat) t, fn.params[j]? = some t → Tryz.pinned.checked.prog.wantsStandIn t = false := by
  obtain rfl : f = 5 := Option.some.inj ((show Tryz.prog.funcNamed Rows.pathsBackRow.func = some 5 by kernel_rfl).symm.trans hf) |>.symm
  obtain rfl : fn = Tryz.f5 := (Option.some.inj (Tryz.func5.symm.trans hfn)).symm
  refine ⟨by kernel_rfl, fun j t ht => ?_⟩
  rw [Tryz.params5] at ht
  have hm : t ∈ [9, 25] := by have := Array.mem_of_getElem? ht; simp at this ⊢; first | omega | (rcases this with h | h <;> simp [h]) | (rcases this with h | h | h <;> simp [h]) | simp [this]
  have hall : ([9, 25].all fun u => !Tryz.prog.wantsStandIn u) = true := by kernel_rfl
  exact (show Tryz.prog.wantsStandIn t = false by simpa using List.all_eq_true.1 hall t hm)
/-- The tied card. -/
theorem card : Rows.PathsBackCardSaid :=
  Claim7.holds_tied_plain_at .later [] _ _ _ _ said (fun _ h => by cases h) (by kernel_rfl) (fun _ h => by cases h) pathsBack_row_tie rfl ⟨rfl, rfl⟩ (by kernel_rfl) rfl plain (by kernel_rfl)
#print axioms card
end Go.Proofs.YtjfpcgkgdajcfaaGreatDoor.pathsBack
namespace Go.Proofs.YtjfpcgkgdajcfaaGreatDoor
/-- The card, under a short name, for the claim. -/
theorem pathsBack_holds : Rows.PathsBackCardSaid := pathsBack.card
end Go.Proofs.YtjfpcgkgdajcfaaGreatDoor
