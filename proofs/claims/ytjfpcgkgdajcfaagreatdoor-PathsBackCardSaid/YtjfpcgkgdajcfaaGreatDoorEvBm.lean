/-
  strings.Builder's contracts along a path; no condition.
-/
import Derived.Test.YtjfpcgkgdajcfaaGreatDoorEvB
import Derived.Test.YtjfpcgkgdajcfaaGreatDoorEvPc
namespace Go.Ev
open Go
def isBytesX (els : List AV) : Bool := els.all fun e => match e with | .int .u8 n => decide (0 ≤ n ∧ n < 256) | _ => false
theorem bytesX_D : ∀ {els : List AV}, isBytesX els = true → bytesX els = some (bytesD els) := by
  intro els
  induction els with
  | nil => intro _; rfl
  | cons e els ih =>
    intro h
    simp only [isBytesX, List.all_cons, Bool.and_eq_true] at h
    have hr := ih (by simpa [isBytesX] using h.2)
    obtain ⟨h1, _⟩ := h
    split at h1
    · rename_i n
      simp only [bytesX, h1, cnd_true, hr, Option.map_some, bytesD, List.map_cons, AV.intOf]
    · cases h1
def copyM (T : TypeId) : List AV → St → M (AV × St)
  | [.pt k g 0 0], s => withBlk s k g fun b => match b.els with
    | [.agg (c0 :: rest)] => ifM (b.ty == T && (b.va && (b.n == 2 && !b.fz))) (match c0 with
      | .val (.pointer none) => ret (.tup [], setElsK s k [.agg (.pt k g 0 0 :: rest)])
      | .pt k' g' 0 0 => ifM (k' == k) (sameM g' g (ret (.tup [], s)))
      | _ => noM)
    | _ => noM
  | _, _ => noM
theorem copyM_ok {T : TypeId} {args : List AV} {s : St} : Ok (copyM T args s) (copyX T args s) := by
  unfold copyM
  split
  · rename_i k g
    simp only [copyX]
    refine Ok.blk fun b hb hg => ?_
    split
    · rename_i c0 rest hels
      simp only [hels]
      refine Ok.if' fun h => ?_
      rw [h, cond_true]
      split
      · rw [setEls_K hb hg]; exact Ok.ret _
      · rename_i k' g'
        refine Ok.if' fun h1 => Ok.same fun h2 => ?_
        simp only [h1, h2, beq_self_eq_true, Bool.and_self, cond_true]
        exact Ok.ret _
      · exact Ok.no _
    · exact Ok.no _
  · exact Ok.no _
def stringM (e : TypeId) : List AV → St → M (AV × St)
  | [.pt k g 0 0], s => withBlk s k g fun b => match b.els with
    | [.agg [_, .sl true _ [] .full]] => ret (.str [], s)
    | [.agg [_, .sl _ 1 els (.own k' g')]] => match s.lv.filter (fun q => q.1 == k') with
      | [q] => ifM (q.2.2.2 == e) (sameM q.2.1 g' (sameM q.2.2.1 els.length (asmM (!els.isEmpty) (asmM (decide (els.length < 2 ^ 62)) (asmM (isBytesX els) (ret (.str (bytesD els), { s with lv := s.lv.filter fun q => !(q.1 == k') })))))))
      | _ => noM
    | _ => noM
  | _, _ => noM
theorem stringM_ok {e : TypeId} {args : List AV} {s : St} : Ok (stringM e args s) (stringX e args s) := by
  unfold stringM
  split
  · rename_i k g
    simp only [stringX]
    refine Ok.blk fun b hb hg => ?_
    split
    · rename_i c0 n hels
      simp only [hels]
      exact Ok.ret _
    · rename_i c0 nl els k' g' hels
      simp only [hels]
      split
      · rename_i q hq
        refine Ok.if' fun h1 => Ok.same fun h2 => Ok.same fun h3 => Ok.asm' fun h4 => Ok.asm' fun h5 => Ok.asm' fun h6 => ?_
        rw [hasTk_filter hq h1 h2 h3, h4, h5, bytesX_D h6]
        exact Ok.ret _
      · exact Ok.no _
    · exact Ok.no _
  · exact Ok.no _
end Go.Ev
