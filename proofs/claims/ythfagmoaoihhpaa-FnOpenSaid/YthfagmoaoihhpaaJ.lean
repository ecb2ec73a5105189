/- Contracts of functions of the program, at this seat: what each call returns, by its arguments as data; each states its own conditions. -/
import Derived.Test.YthfagmoaoihhpaaI
namespace Go.DL
set_option maxRecDepth 100000
set_option maxHeartbeats 2000000
set_option linter.unusedSimpArgs false
set_option linter.unusedVariables false
open Go.RowKit Go.Proofs Go.Proofs.Ythfagmoaoihhpaa

def isLineP (cat : List ItemV) (x : LineV) : Prop := 0 ≤ idxOf cat x.parent ∧ 0 ≤ idxOf cat x.part ∧ (∀ y, cat[(idxOf cat x.parent).toNat]? = some y → y.kind ≠ 0) ∧ inP x.quantity 1 1000 ∧ inP x.start 0 999 ∧ inP x.stop x.start 999 ∧ isCondP x.when
def isBillsP (cat : List ItemV) (lines : List LineV) : Prop := isCatalogP cat ∧ lines.length ≤ 24 ∧ (∀ x ∈ lines, isLineP cat x) ∧ acycP cat lines
theorem linesIn_of {cat : List ItemV} {lines : List LineV} (h : ∀ x ∈ lines, isLineP cat x) : linesIn cat lines := fun x hx => ⟨(h x hx).1, (h x hx).2.1⟩
theorem bills_not {cat : List ItemV} {lines : List LineV} {i : Nat} {x : LineV} (hx : lines[i]? = some x) (h : ¬ isLineP cat x) : ¬ isBillsP cat lines := fun hp => h (hp.2.2.1 x (get_mem hx))

end Go.DL
