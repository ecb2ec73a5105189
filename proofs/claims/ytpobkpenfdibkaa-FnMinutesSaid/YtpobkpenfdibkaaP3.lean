/- Contracts of functions of the program, at this seat: what each call returns, by its arguments as data; each states its own conditions. -/
import Derived.Test.YtpobkpenfdibkaaP2
namespace Go.DL
set_option maxRecDepth 100000
set_option maxHeartbeats 2000000
set_option linter.unusedSimpArgs false
set_option linter.unusedVariables false
open Go.RowKit Go.Proofs Go.Proofs.Ytpobkpenfdibkaa

theorem app1 {α : Type} {f : α → D} {l : List α} {x : α} {m : Nat} (h : m = l.length) : (l ++ [x]).map f = (l.map f).take m ++ [f x] := by
  subst h; rw [List.take_of_length_le (by simp)]; simp
theorem okZ : okI 0 := by unfold okI; omega
theorem okO : okI 1 := by unfold okI; omega
theorem okE : okS ⟨#[]⟩ := by unfold okS; decide

theorem c_spec_l1Code (c : CurV) (hc : c.ok) : LContract Try.prog 146 [.lp] (some (curA c)) (fun r xs => ∃ (v : ByteArray) (c' : CurV), okS v ∧ c'.ok ∧ r = .one (.d (sD v)) ∧ xs = [c'.dat]) := by
  refine contract_byL [100000 + 72, 100000 + 145] hma hTa Try.func146 (by kernel_rfl) (by kernel_rfl) ?_
  conv => whnf
  refine L_Once hc (fun b c1 hc1 => ?_)
  conv => whnf
  refine brB (fun h => ?_) (fun h => ?_) <;> conv => whnf
  · refine L_Pick hc1 rfl rfl (fun v c2 hc2 hv => ?_)
    conv => whnf
    exact ⟨rfl, rfl, rfl, _, ⟨v, c2, by unfold okS; omega, hc2, rfl, rfl⟩, rfl, rfl, trivial⟩
  · refine L_Pick hc1 rfl rfl (fun v c2 hc2 hv => ?_)
    conv => whnf
    exact ⟨rfl, rfl, rfl, _, ⟨v, c2, by unfold okS; omega, hc2, rfl, rfl⟩, rfl, rfl, trivial⟩

end Go.DL
