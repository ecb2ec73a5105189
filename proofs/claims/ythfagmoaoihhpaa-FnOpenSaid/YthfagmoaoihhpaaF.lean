/- Contracts of functions of the program, at this seat: what each call returns, by its arguments as data; each states its own conditions. -/
import Derived.Test.YthfagmoaoihhpaaE
namespace Go.DL
set_option maxRecDepth 100000
set_option maxHeartbeats 2000000
set_option linter.unusedSimpArgs false
set_option linter.unusedVariables false
open Go.RowKit Go.Proofs Go.Proofs.Ythfagmoaoihhpaa

/-- An array of integers, as a function of the index. -/
def arrF (n : Nat) (f : Nat → Int) : List D := (List.range n).map (fun j => iD (f j))
theorem arrF_len (n : Nat) (f : Nat → Int) : (arrF n f).length = n := by simp [arrF]
theorem arrF_get {n i : Nat} {f : Nat → Int} (h : i < n) : (arrF n f)[i]? = some (iD (f i)) := by simp [arrF, h]
theorem arrF_rep (n : Nat) : List.replicate n (iD 0) = arrF n (fun _ => 0) := by
  apply List.ext_getElem?
  intro i
  by_cases h : i < n
  · rw [arrF_get h]; simp [h]
  · rw [List.getElem?_eq_none (by simp; omega), List.getElem?_eq_none (by rw [arrF_len]; omega)]
theorem arrF_set {n i : Nat} {f : Nat → Int} {v : Int} : (arrF n f).set i (iD v) = arrF n (fun j => if j = i then v else f j) := by
  apply List.ext_getElem?
  intro j
  rw [List.getElem?_set]
  by_cases h : j < n
  · rw [arrF_get (f := fun j => if j = i then v else f j) h]
    by_cases e : i = j
    · subst e; rw [if_pos rfl, if_pos (by rw [arrF_len]; exact h), if_pos rfl]
    · rw [if_neg e, arrF_get h, if_neg (fun h => e h.symm)]
  · rw [List.getElem?_eq_none (l := arrF n fun j => if j = i then v else f j) (by rw [arrF_len]; omega)]
    split
    · rw [if_neg (by rw [arrF_len]; omega)]
    · rw [List.getElem?_eq_none (by rw [arrF_len]; omega)]
theorem arrF_congr {n : Nat} {f g : Nat → Int} (h : ∀ j < n, f j = g j) : arrF n f = arrF n g := by
  apply List.ext_getElem?
  intro j
  by_cases hj : j < n
  · rw [arrF_get hj, arrF_get hj, h j hj]
  · rw [List.getElem?_eq_none (by rw [arrF_len]; omega), List.getElem?_eq_none (by rw [arrF_len]; omega)]
theorem arrF_width (n : Nat) (f : Nat → Int) : ∀ y ∈ arrF n f, y.width = 1 := fun y hy => by
  obtain ⟨a, _, rfl⟩ := List.mem_map.1 hy
  rfl
theorem IxK_arrF {n : Nat} {f : Nat → Int} {j : Int} {K : D → Prop} (i : Nat) (hj : j = i) (h : i < n) (hK : K (iD (f i))) : IxK (arrF n f) j K := IxK_intro i hj (arrF_get h) hK

/-- How long the pieces have taken: after i steps of one pass over what stood ready. -/
def runOf (r : RoutingV) (i : Nat) : Int := match r.steps[i]? with | some x => x.run | none => 0
def passE (run R : Nat → Int) : Nat → Int
  | 0 => 0
  | i + 1 => Max.max (passE run R i) (R i) + run i
def flowR (run : Nat → Int) : Nat → Nat → Int
  | 0 => fun _ => 0
  | k + 1 => fun j => passE run (flowR run k) (j + 1)
noncomputable def flowTimeN (r : RoutingV) (q : Int) : Int := ifP (isRoutingP r ∧ inP q 1 200) (flowR (runOf r) q.toNat (r.steps.length - 1)) 0
theorem passE_bound {run R : Nat → Int} {M : Int} (hr : ∀ i, 0 ≤ run i ∧ run i ≤ 1000) (hR : ∀ i, 0 ≤ R i ∧ R i ≤ M) : ∀ i, 0 ≤ passE run R i ∧ passE run R i ≤ M + 1000 * i
  | 0 => by have := hR 0; simp [passE]; omega
  | i + 1 => by
    have h1 := passE_bound hr hR i
    have h2 := hR i
    have h3 := hr i
    simp only [passE]
    omega
theorem flowR_bound {run : Nat → Int} (hr : ∀ i, 0 ≤ run i ∧ run i ≤ 1000) : ∀ (k j : Nat), j < 6 → 0 ≤ flowR run k j ∧ flowR run k j ≤ 6000 * k
  | 0, j, _ => by simp [flowR]
  | k + 1, j, hj => by
    have key : ∀ i, i ≤ 6 → 0 ≤ passE run (flowR run k) i ∧ passE run (flowR run k) i ≤ 6000 * k + 1000 * i := by
      intro i
      induction i with
      | zero => intro _; simp [passE]; omega
      | succ i ih =>
        intro hi
        have h1 := ih (by omega)
        have h2 := flowR_bound hr k i (by omega)
        have h3 := hr i
        simp only [passE]
        omega
    have := key (j + 1) (by omega)
    simp only [flowR]
    omega
theorem pass_bound {run : Nat → Int} (hr : ∀ i, 0 ≤ run i ∧ run i ≤ 1000) (k : Nat) : ∀ i, i ≤ 6 → 0 ≤ passE run (flowR run k) i ∧ passE run (flowR run k) i ≤ 6000 * k + 1000 * i := by
  intro i
  induction i with
  | zero => intro _; simp [passE]; omega
  | succ i ih =>
    intro hi
    have h1 := ih (by omega)
    have h2 := flowR_bound hr k i (by omega)
    have h3 := hr i
    simp only [passE]
    omega
theorem runOf_bound {r : RoutingV} (h : isRoutingP r) (i : Nat) : 0 ≤ runOf r i ∧ runOf r i ≤ 1000 := by
  unfold runOf
  split
  · rename_i x hx
    have := (h.1 x (get_mem hx)).2.2
    omega
  · omega
theorem runOf_at {r : RoutingV} {i : Nat} {x : StepV} (h : r.steps[i]? = some x) : runOf r i = x.run := by unfold runOf; rw [h]
/-- The array within a pass: i steps are done. -/
def mixR (run : Nat → Int) (k i : Nat) : Nat → Int := fun j => if j < i then flowR run (k + 1) j else flowR run k j
theorem mixR_zero (run : Nat → Int) (k : Nat) : mixR run k 0 = flowR run k := by funext j; simp [mixR]
theorem mixR_at (run : Nat → Int) (k i : Nat) : mixR run k i i = flowR run k i := by simp [mixR]
theorem mixR_step (run : Nat → Int) (k i n : Nat) : (arrF n (mixR run k i)).set i (iD (Max.max (passE run (flowR run k) i) (flowR run k i) + run i)) = arrF n (mixR run k (i + 1)) := by
  rw [arrF_set]
  refine arrF_congr fun j _ => ?_
  unfold mixR
  by_cases e : j = i
  · subst e; simp [flowR, passE]
  · rw [if_neg e]
    by_cases h : j < i
    · rw [if_pos h, if_pos (by omega)]
    · rw [if_neg h, if_neg (by omega)]
theorem mixR_end (run : Nat → Int) (k n : Nat) : arrF n (mixR run k n) = arrF n (flowR run (k + 1)) := arrF_congr fun j hj => by simp [mixR, hj]

end Go.DL
