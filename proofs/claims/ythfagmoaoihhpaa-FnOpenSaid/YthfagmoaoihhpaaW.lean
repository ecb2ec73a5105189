/- Contracts of functions of the program, at this seat: what each call returns, by its arguments as data; each states its own conditions. -/
import Derived.Test.YthfagmoaoihhpaaV
namespace Go.DL
set_option maxRecDepth 100000
set_option maxHeartbeats 2000000
set_option linter.unusedSimpArgs false
set_option linter.unusedVariables false
open Go.RowKit Go.Proofs Go.Proofs.Ythfagmoaoihhpaa

theorem take_eq_of {α : Type} {c l : List α} (h : c.length = l.length) {k : Nat} (hk : c.length ≤ k) (e : c.take k = l.take k) : c = l := by
  rw [List.take_of_length_le hk, List.take_of_length_le (by omega)] at e; exact e
theorem pick_eq {a b : PickV} : (strEq a.option b.option && (strEq a.value b.value && true)) = true ↔ a = b := by
  rw [Bool.and_true, Bool.and_eq_true, strEq_iff, strEq_iff]
  cases a; cases b; simp

end Go.DL
