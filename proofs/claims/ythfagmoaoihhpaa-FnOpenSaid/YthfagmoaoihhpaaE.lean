/- Contracts of functions of the program, at this seat: what each call returns, by its arguments as data; each states its own conditions. -/
import Derived.Test.YthfagmoaoihhpaaD
namespace Go.DL
set_option maxRecDepth 100000
set_option maxHeartbeats 2000000
set_option linter.unusedSimpArgs false
set_option linter.unusedVariables false
open Go.RowKit Go.Proofs Go.Proofs.Ythfagmoaoihhpaa

theorem AllB_mono {α : Type} {l : List α} {g h : Nat → α → Prop} {i : Nat} (ha : AllB l g i) (hh : ∀ j x, g j x → h j x) : AllB l h i := fun j hj x hx => hh j x (ha j hj x hx)
noncomputable def slowestN (r : RoutingV) (q : Int) : Int := ifP (isRoutingP r ∧ inP q 1 100000) (findP (fun x => ∀ y ∈ r.steps, stepTimeN y q ≤ stepTimeN x q) r.steps) (-1)
theorem findP_max {α : Type} {f : α → Int} {l : List α} {b n : Nat} {x : α} (hx : l[b]? = some x) (h1 : AllB l (fun _ y => f y ≤ f x) n) (hn : l.length ≤ n) (h2 : AllB l (fun _ y => f y < f x) b) : findP (fun x => ∀ y ∈ l, f y ≤ f x) l = b := by
  refine findP_at hx ?_ (fun j hj y hy hp => ?_)
  · intro y hy
    obtain ⟨j, hj⟩ := List.getElem?_of_mem hy
    exact h1 j (by have := get_lt hj; omega) y hj
  · have h3 := h2 j hj y hy
    have h4 := hp x (get_mem hx)
    omega
def bestOK (f : StepV → Int) (l : List StepV) (i : Nat) (b : Nat) (x : StepV) : Prop := l[b]? = some x ∧ b < i ∧ AllB l (fun _ y => f y ≤ f x) i ∧ AllB l (fun _ y => f y < f x) b
theorem best_new {f : StepV → Int} {l : List StepV} {i b : Nat} {x y : StepV} (h : bestOK f l i b x) (hy : l[i]? = some y) (hlt : f x < f y) : bestOK f l (i + 1) i y :=
  ⟨hy, by omega, AllB_succ hy (AllB_mono h.2.2.1 (fun _ z hz => by omega)) (Int.le_refl _), AllB_mono h.2.2.1 (fun _ z hz => by omega)⟩
theorem best_keep {f : StepV → Int} {l : List StepV} {i b : Nat} {x y : StepV} (h : bestOK f l i b x) (hy : l[i]? = some y) (hle : f y ≤ f x) : bestOK f l (i + 1) b x :=
  ⟨h.1, by have := h.2.1; omega, AllB_succ hy h.2.2.1 hle, h.2.2.2⟩

def isChangeP (cat : List ItemV) (x : ChangeV) : Prop := isCatalogP cat ∧ inP x.day 0 999 ∧ 0 ≤ findP (fun y => y.code = x.parent) cat ∧ 0 ≤ findP (fun y => y.code = x.old) cat ∧ ((x.new = ⟨#[]⟩ ∧ x.quantity = 0) ∨ (x.new ≠ ⟨#[]⟩ ∧ 0 ≤ findP (fun y => y.code = x.new) cat ∧ inP x.quantity 0 1000))
theorem noempty {cat : List ItemV} (h : isCatalogP cat) : findP (fun y => y.code = ⟨#[]⟩) cat = -1 := by
  rcases findP_cases (fun y : ItemV => y.code = ⟨#[]⟩) cat with ⟨h1, _⟩ | ⟨i, x, h1, h2, h3, _⟩
  · exact h1
  · have := (h.1 i x h2).1.1.2.1
    rw [h3] at this
    exact absurd this (by decide)

end Go.DL
