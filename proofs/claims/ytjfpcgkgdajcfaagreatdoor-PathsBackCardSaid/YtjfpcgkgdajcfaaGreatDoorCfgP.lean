/-
  What the evaluator leans on: functions with a meaning of their own; no condition.
-/
import Derived.Test.YtjfpcgkgdajcfaaGreatDoorEvB
import Derived.Lib.ItoaNum
import Derived.Lib.AtoiAll
import Derived.Lib.IndexMore
import Derived.Lib.SlTrimSet
import Derived.Lib.Repeat
namespace Go.Ev
open Go
/-- strconv.Itoa, strconv.Atoi (of a number), strings.Cut, strings.Trim, strings.Repeat. -/
def itoaA : List AV → Option AV
  | [.int .i64 a] => cnd (decide (-9223372036854775808 ≤ a ∧ a ≤ 9223372036854775807)) (some (.str (Lib.itoa a))) none
  | _ => none
def atoiA : List AV → Option AV
  | [.str l] => cnd (decide (l.length ≤ 9223372036854775806)) (match Lib.atoiAll l with
    | .ok v => some (.tup [.int .i64 v, .val .nilIface])
    | _ => none) none
  | _ => none
def cutA : List AV → Option AV
  | [.str a, .str b] => cnd (decide (a.length < 4294967281)) (some (.tup [.str (Lib.cut a b).1, .str (Lib.cut a b).2.1, .bool (Lib.cut a b).2.2])) none
  | _ => none
def trimA : List AV → Option AV
  | [.str a, .str b] => cnd (decide (a.length ≤ 9223372036854775807 ∧ b.length < 4294967281) && b.all (fun x => decide (x.toNat < 128))) (some (.str (Lib.trimS a b))) none
  | _ => none
def repeatA : List AV → Option AV
  | [.str a, .int .i64 n] => cnd (decide (0 ≤ n ∧ n ≤ 9223372036854775807 ∧ a.length * n.toNat ≤ 140737488355328)) (some (.str (Lib.repeatL a n.toNat))) none
  | _ => none
end Go.Ev
