/- Contracts of functions of the program, at this seat: what each call returns, by its arguments as data; each states its own conditions. -/
import Derived.Test.YtpobkpenfdibkaaP3
namespace Go.DL
set_option maxRecDepth 100000
set_option maxHeartbeats 2000000
set_option linter.unusedSimpArgs false
set_option linter.unusedVariables false
open Go.RowKit Go.Proofs Go.Proofs.Ytpobkpenfdibkaa

theorem c_spec_l10Quantity (c : CurV) (hc : c.ok) : LContract Try.prog 116 [.lp] (some (curA c)) (fun r xs => ∃ (v : Int) (c' : CurV), okI v ∧ v ≤ 100001 ∧ c'.ok ∧ r = .one (.d (iD v)) ∧ xs = [c'.dat]) := by
  refine contract_byL [100000 + 72, 100000 + 120, 100000 + 121] hma hTa Try.func116 (by kernel_rfl) (by kernel_rfl) ?_
  conv => whnf
  refine L_Once hc (fun b c1 hc1 => ?_)
  conv => whnf
  refine brB (fun h => ?_) (fun h => ?_) <;> conv => whnf
  · refine LCallK_intro (c_spec_l1PickInt _ hc1 [-1, 0, 100000, 100001] (by decide) (by decide)) ?_
    have hm := c1.pickI_mem (l := [-1, 0, 100000, 100001]) (by decide)
    have hm2 : okI (c1.pickI [-1, 0, 100000, 100001]) ∧ c1.pickI [-1, 0, 100000, 100001] ≤ 100001 := by
      unfold okI; simp at hm; omega
    conv => whnf
    exact ⟨rfl, rfl, rfl, _, ⟨_, _, hm2.1, hm2.2, CurV.aft_ok hc1 _, rfl, rfl⟩, rfl, rfl, trivial⟩
  · refine L_Below hc1 (fun v c2 hc2 hv _ => ?_)
    have hv1 := hv (by omega)
    conv => whnf
    refine WrK_i64 (by omega) (by omega) ?_
    conv => whnf
    exact ⟨rfl, rfl, rfl, _, ⟨1 + v, c2, (okI_of (by omega) hv (by omega)).2, by omega, hc2, rfl, rfl⟩, rfl, rfl, trivial⟩

theorem okL_le {α : Type} {ok : α → Prop} {l : List α} {n : Nat} (h : ∀ x ∈ l, ok x) (hn : l.length ≤ n) (h2 : n ≤ 1000) : okL ok l := ⟨by omega, h⟩

end Go.DL
