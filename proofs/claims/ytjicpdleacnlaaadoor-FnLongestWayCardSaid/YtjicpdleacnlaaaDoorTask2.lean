/- The small functions over slices of tasks: contracts. -/
import Derived.Test.YtjicpdleacnlaaaDoorTask
set_option linter.unusedVariables false
set_option linter.unusedSimpArgs false
namespace Go.Proofs.YtjicpdleacnlaaaDoor
open Go.ChangeShapes Go.WideShapes Go.ChangeAt Go.RowKit

theorem take_set_succ {α : Type} (ps : List α) (k : Nat) (x : α) (h : k < ps.length) : (ps.set k x).take (k + 1) = ps.take k ++ [x] := by
  rw [List.take_succ_eq_append_getElem (by simpa using h), List.take_set, List.set_eq_of_length_le (by rw [List.length_take]; omega)]
  simp
theorem pairs_set12 (a : Int) (v : Value) (ps : List (Int × Value)) (k : Nat) (hk : k < ps.length) : ((pairs ps).set (k * 2) (.int .i64 a)).set (k * 2 + 1) v = pairs (ps.set k (a, v)) := by
  rw [pairs_set1 a ps k hk, pairs_set2 v _ k (by simpa using hk)]
  simp
end Go.Proofs.YtjicpdleacnlaaaDoor
