/- Contracts of functions of the program, at this seat: what each call returns, by its arguments as data; each states its own conditions. -/
import Derived.Test.YtpobkpenfdibkaaQ1
import Derived.Test.YtpobkpenfdibkaaF
namespace Go.DL
set_option maxRecDepth 100000
set_option maxHeartbeats 2000000
set_option linter.unusedSimpArgs false
set_option linter.unusedVariables false
open Go.RowKit Go.Proofs Go.Proofs.Ytpobkpenfdibkaa

/-! How long the pieces take that go on at once. -/
def sumR (run : Nat → Int) : Nat → Int
  | 0 => 0
  | i + 1 => sumR run i + run i
def maxR (run : Nat → Int) : Nat → Int
  | 0 => 0
  | i + 1 => Max.max (maxR run i) (run i)
theorem sumR_bound {run : Nat → Int} (hr : ∀ i, 0 ≤ run i ∧ run i ≤ 1000) : ∀ i : Nat, 0 ≤ sumR run i ∧ sumR run i ≤ 1000 * i
  | 0 => by simp [sumR]
  | i + 1 => by
    have h1 := sumR_bound hr i
    have h2 := hr i
    simp only [sumR]
    omega
theorem maxR_bound {run : Nat → Int} (hr : ∀ i, 0 ≤ run i ∧ run i ≤ 1000) : ∀ i : Nat, 0 ≤ maxR run i ∧ maxR run i ≤ 1000
  | 0 => by simp [maxR]
  | i + 1 => by
    have h1 := maxR_bound hr i
    have h2 := hr i
    simp only [maxR]
    omega
theorem pass_closed {run : Nat → Int} (hr : ∀ i, 0 ≤ run i ∧ run i ≤ 1000) : ∀ (k i : Nat), passE run (flowR run k) i = sumR run i + k * maxR run i
  | k, 0 => by simp [passE, sumR, maxR]
  | 0, i + 1 => by
    have h1 := pass_closed hr 0 i
    have h2 := sumR_bound hr i
    have h3 := hr i
    rw [show passE run (flowR run 0) (i + 1) = Max.max (passE run (flowR run 0) i) (flowR run 0 i) + run i from rfl, h1, show flowR run 0 i = 0 from rfl, show sumR run (i + 1) = sumR run i + run i from rfl]
    simp only [Int.natCast_zero, Int.zero_mul, Int.add_zero]
    omega
  | k + 1, i + 1 => by
    have h1 := pass_closed hr (k + 1) i
    have h2 := pass_closed hr k (i + 1)
    rw [show passE run (flowR run (k + 1)) (i + 1) = Max.max (passE run (flowR run (k + 1)) i) (passE run (flowR run k) (i + 1)) + run i from rfl, h1, h2, show sumR run (i + 1) = sumR run i + run i from rfl, show maxR run (i + 1) = Max.max (maxR run i) (run i) from rfl]
    have h3 := hr i
    have h4 := maxR_bound hr i
    generalize maxR run i = M at h4 ⊢
    generalize run i = p at h3 ⊢
    generalize sumR run i = S
    have hk : ((k + 1 : Nat) : Int) = (k : Int) + 1 := by omega
    rw [hk]
    rcases Int.le_total p M with h | h
    · rw [Int.max_eq_left h]
      rw [Int.add_mul, Int.one_mul, Int.max_eq_left (by omega)]
      omega
    · rw [Int.max_eq_right h]
      have h5 : (k : Int) * M ≤ (k : Int) * p := Int.mul_le_mul_of_nonneg_left h (by omega)
      rw [Int.add_mul, Int.add_mul, Int.one_mul, Int.one_mul, Int.max_eq_right (by omega)]
      omega
theorem flow_closed {r : RoutingV} (h : isRoutingP r) {q : Int} (hq : inP q 1 200) : flowTimeN r q = sumR (runOf r) r.steps.length + (q - 1) * maxR (runOf r) r.steps.length := by
  have hr := runOf_bound h
  have hl := h.2.2.1
  unfold inP at hq
  unfold flowTimeN
  rw [ifP_t ⟨h, hq⟩]
  obtain ⟨k, hk⟩ : ∃ k : Nat, q.toNat = k + 1 := ⟨q.toNat - 1, by omega⟩
  rw [hk]
  show passE (runOf r) (flowR (runOf r) k) (r.steps.length - 1 + 1) = _
  rw [pass_closed hr, show r.steps.length - 1 + 1 = r.steps.length by omega, show (q - 1) = (k : Int) by omega]

end Go.DL
