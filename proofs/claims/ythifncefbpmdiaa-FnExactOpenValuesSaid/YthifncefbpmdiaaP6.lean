/- Contracts of functions of the program, at this seat: what each call returns, by its arguments as data; each states its own conditions. -/
import Derived.Test.YthifncefbpmdiaaP5
namespace Go.DL
set_option maxRecDepth 100000
set_option maxHeartbeats 2000000
set_option linter.unusedSimpArgs false
set_option linter.unusedVariables false
open Go.RowKit Go.Proofs Go.Proofs.Ythifncefbpmdiaa

theorem okL_le {α : Type} {ok : α → Prop} {l : List α} {n : Nat} (h : ∀ x ∈ l, ok x) (hn : l.length ≤ n) (h2 : n ≤ 1000) : okL ok l := ⟨by omega, h⟩

end Go.DL
