/- Contracts of functions of the program, at this seat: what each call returns, by its arguments as data; each states its own conditions. -/
import Derived.Test.YtamhoddnnifbiaaP7
namespace Go.DL
set_option maxRecDepth 100000
set_option maxHeartbeats 2000000
set_option linter.unusedSimpArgs false
set_option linter.unusedVariables false
open Go.RowKit Go.Proofs Go.Proofs.Ytamhoddnnifbiaa

theorem ex_take_succ {α : Type} {l : List α} {i : Nat} {x : α} {p : α → Prop} (h : l[i]? = some x) : (∃ y ∈ l.take (i + 1), p y) ↔ (∃ y ∈ l.take i, p y) ∨ p x := by
  rw [take_snoc h]
  constructor
  · rintro ⟨y, hy, h2⟩
    rcases List.mem_append.1 hy with h3 | h3
    · exact .inl ⟨y, h3, h2⟩
    · simp at h3; subst h3; exact .inr h2
  · rintro (⟨y, hy, h2⟩ | h2)
    · exact ⟨y, List.mem_append_left _ hy, h2⟩
    · exact ⟨x, by simp, h2⟩
theorem ex_take_zero {α : Type} {l : List α} {p : α → Prop} : ¬ ∃ y ∈ l.take 0, p y := fun ⟨y, h, _⟩ => by simp at h

end Go.DL
