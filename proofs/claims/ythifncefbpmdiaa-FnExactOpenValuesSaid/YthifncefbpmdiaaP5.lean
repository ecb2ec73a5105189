/- Contracts of functions of the program, at this seat: what each call returns, by its arguments as data; each states its own conditions. -/
import Derived.Test.YthifncefbpmdiaaP4
import Derived.Test.YthifncefbpmdiaaJ
namespace Go.DL
set_option maxRecDepth 100000
set_option maxHeartbeats 2000000
set_option linter.unusedSimpArgs false
set_option linter.unusedVariables false
open Go.RowKit Go.Proofs Go.Proofs.Ythifncefbpmdiaa

theorem c_impl_LevelsOf_y (cat : List ItemV) (hc : okL ItemV.ok cat) (lines : List LineV) (hl : okL LineV.ok lines) (hb : isBillsP cat lines) : Contract Try.prog 35 [.d (lD ItemV.dat cat), .d (lD LineV.dat lines)] (.one (.own ⟨3, 1, arrF cat.length (levOf cat lines)⟩)) := by
  refine contract_by hma hTa Try.func35 (by kernel_rfl) (by kernel_rfl) ?_
  conv => whnf
  refine CallK_tr (c_impl_IsBills _ hc _ hl) (fun _ => ?_) (fun h => absurd hb h)
  conv => whnf
  refine CallK_intro (c_impl_levels_y cat hc lines hl hb.1.2 hb.2.1 (linesIn_of hb.2.2.1) hb.2.2.2) ?_
  conv => whnf
  exact ⟨rfl, rfl, rfl, rfl⟩
theorem c_impl_LevelsOf_n (cat : List ItemV) (hc : okL ItemV.ok cat) (lines : List LineV) (hl : okL LineV.ok lines) (hb : ¬ isBillsP cat lines) : Contract Try.prog 35 [.d (lD ItemV.dat cat), .d (lD LineV.dat lines)] (.one (.d (.sl []))) := by
  refine contract_by hma hTa Try.func35 (by kernel_rfl) (by kernel_rfl) ?_
  conv => whnf
  refine CallK_tr (c_impl_IsBills _ hc _ hl) (fun h => absurd h hb) (fun _ => ?_)
  conv => whnf
  all_goals exact rfl

end Go.DL
