/- Contracts of functions of the program, at this seat: what each call returns, by its arguments as data; each states its own conditions. -/
import Derived.Test.YthfagmoaoihhpaaA
namespace Go.DL
set_option maxRecDepth 100000
set_option maxHeartbeats 2000000
set_option linter.unusedSimpArgs false
set_option linter.unusedVariables false
open Go.RowKit Go.Proofs Go.Proofs.Ythfagmoaoihhpaa

def isRoutingP (r : RoutingV) : Prop := (∀ x ∈ r.steps, isStepP x) ∧ isCodeP r.item ∧ 1 ≤ r.steps.length ∧ r.steps.length ≤ 6
theorem all_of {α : Type} {p : α → Prop} {l : List α} {i : Nat} (h : AllB l (fun _ x => p x) i) (hi : l.length ≤ i) : ∀ x ∈ l, p x := fun x hx => by
  obtain ⟨j, hj⟩ := List.getElem?_of_mem hx
  exact h j (by have := get_lt hj; omega) x hj

def isDemandAt (l : List DemandV) (i : Nat) (d : DemandV) : Prop := inP d.id 1 9999 ∧ isCodeP d.item ∧ inP d.quantity 1 100000 ∧ inP d.day 0 999 ∧ inP d.rank 0 9 ∧ AllB l (fun _ e => e.id ≠ d.id) i
def areDemandsP (l : List DemandV) : Prop := allP l (isDemandAt l) ∧ l.length ≤ 16

end Go.DL
