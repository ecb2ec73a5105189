/- Contracts of functions of the program, at this seat: what each call returns, by its arguments as data; each states its own conditions. -/
import Derived.Test.YtamhoddnnifbiaaP2
namespace Go.DL
set_option maxRecDepth 100000
set_option maxHeartbeats 2000000
set_option linter.unusedSimpArgs false
set_option linter.unusedVariables false
open Go.RowKit Go.Proofs Go.Proofs.Ytamhoddnnifbiaa

theorem app1 {α : Type} {f : α → D} {l : List α} {x : α} {m : Nat} (h : m = l.length) : (l ++ [x]).map f = (l.map f).take m ++ [f x] := by
  subst h; rw [List.take_of_length_le (by simp)]; simp
theorem okZ : okI 0 := by unfold okI; omega
theorem okO : okI 1 := by unfold okI; omega
theorem okE : okS ⟨#[]⟩ := by unfold okS; decide

end Go.DL
