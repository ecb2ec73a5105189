/- Contracts of functions of the program, at this seat: what each call returns, by its arguments as data; each states its own conditions. -/
import Derived.Test.YthfagmoaoihhpaaC
namespace Go.DL
set_option maxRecDepth 100000
set_option maxHeartbeats 2000000
set_option linter.unusedSimpArgs false
set_option linter.unusedVariables false
open Go.RowKit Go.Proofs Go.Proofs.Ythfagmoaoihhpaa

abbrev bLt (a b : ByteArray) : Prop := Op.bytesLess a.toList b.toList = true
def isItemAt (l : List ItemV) (i : Nat) (x : ItemV) : Prop := isItemP x ∧ ∀ e, 0 < i → l[i-1]? = some e → bLt e.code x.code
def isCatalogP (l : List ItemV) : Prop := allP l (isItemAt l) ∧ l.length ≤ 12
def isRoutingAt (l : List RoutingV) (i : Nat) (x : RoutingV) : Prop := isRoutingP x ∧ ∀ e, 0 < i → l[i-1]? = some e → bLt e.item x.item
def areRoutingsP (l : List RoutingV) : Prop := allP l (isRoutingAt l) ∧ l.length ≤ 12


noncomputable def demTo (item : ByteArray) (day : Int) (x : DemandV) : Int := ifP (x.item = item ∧ x.day ≤ day) x.quantity 0
noncomputable def demandUpToN (l : List DemandV) (item : ByteArray) (day : Int) : Int := ifP (areDemandsP l) (sumI (demTo item day) l) 0
theorem demands_bound {l : List DemandV} (h : areDemandsP l) (item : ByteArray) (day : Int) (i : Nat) : 0 ≤ sumI (demTo item day) (l.take i) ∧ sumI (demTo item day) (l.take i) ≤ 1600000 := by
  have hb := sumI_bound_take (f := demTo item day) (b := 100000) (l := l) (fun x hx => by
    obtain ⟨j, hj⟩ := List.getElem?_of_mem hx
    have := (h.1 j x hj).2.2.1
    unfold demTo
    by_cases hc : x.item = item ∧ x.day ≤ day
    · rw [ifP_t hc]; omega
    · rw [ifP_f hc]; omega) i
  have : (l.take i).length ≤ l.length := by simp; omega
  have := h.2
  omega


theorem stepTime_bound (x : StepV) (q : Int) : 0 ≤ stepTimeN x q ∧ stepTimeN x q ≤ 100001000 := by
  unfold stepTimeN
  by_cases hc : isStepP x ∧ inP q 1 100000
  · rw [ifP_t hc]
    obtain ⟨h1, h2⟩ := hc
    have hb := mul_bound (a := x.run) (b := q) (A := 1000) (B := 100000) h1.2.2.1 h1.2.2.2 (by have := h2.1; omega) h2.2
    have hs := h1.2.1
    omega
  · rw [ifP_f hc]; omega
noncomputable def routingTimeN (r : RoutingV) (q : Int) : Int := ifP (isRoutingP r ∧ inP q 1 100000) (sumI (fun x => stepTimeN x q) r.steps) 0
theorem routing_bound {r : RoutingV} (h : isRoutingP r) (q : Int) (i : Nat) : 0 ≤ sumI (fun x => stepTimeN x q) (r.steps.take i) ∧ sumI (fun x => stepTimeN x q) (r.steps.take i) ≤ 600006000 := by
  have hb := sumI_bound_take (f := fun x => stepTimeN x q) (b := 100001000) (l := r.steps) (fun x _ => stepTime_bound x q) i
  have : (r.steps.take i).length ≤ r.steps.length := by simp; omega
  have := h.2.2
  omega


end Go.DL
