/- Contracts of functions of the program, at this seat: what each call returns, by its arguments as data; each states its own conditions. -/
import Derived.Test.YtjhjedfnjimflaaP4
import Derived.Test.YtjhjedfnjimflaaJ
namespace Go.DL
set_option maxRecDepth 100000
set_option maxHeartbeats 2000000
set_option linter.unusedSimpArgs false
set_option linter.unusedVariables false
open Go.RowKit Go.Proofs Go.Proofs.Ytjhjedfnjimflaa

def catLinesR (r : Res) (_ : List D) : Prop := ∃ (cat : List ItemV) (lines : List LineV), okL ItemV.ok cat ∧ cat.length ≤ 6 ∧ okL LineV.ok lines ∧ lines.length ≤ 20 ∧ r = .tup (.d (lD ItemV.dat cat)) [lD LineV.dat lines]
theorem c_spec_DrawLevelsOf (b : List Int) (hb : b.length ≤ 1048576) (hb2 : ∀ x ∈ b, 0 ≤ x ∧ x ≤ 255) : LContract Try.prog 42 [.d (lD yD b)] none catLinesR := by
  refine contract_byL [200000 + 79, 200000 + 103, 200000 + 104] hma hTa Try.func42 (by kernel_rfl) (by kernel_rfl) ?_
  conv => whnf
  refine DCallK_intro (c_spec_l1New b hb hb2) ?_
  rintro r _ ⟨c, hc, rfl⟩
  conv => whnf
  refine DCallK_intro (c_spec_l8Catalog c hc) ?_
  rintro r _ ⟨cat, c1, h1, h2, h3, hc1, rfl, rfl⟩
  conv => whnf
  refine takeK_full rfl ?_
  conv => whnf
  refine DCallK_intro (c_spec_l9Bills c1 hc1 cat h1 (by omega)) ?_
  rintro r _ ⟨lines, c2, h4, h5, hc2, rfl, rfl⟩
  conv => whnf
  refine ⟨_, ⟨cat, lines, ⟨by omega, h1⟩, h3, ⟨by omega, h4⟩, h5, rfl⟩, ?_⟩
  conv => whnf
  refine takeK_full rfl ?_
  conv => whnf
  refine ⟨rfl, rfl, ?_⟩
  conv => whnf
  refine takeK_full rfl ?_
  conv => whnf
  exact ⟨rfl, rfl, trivial⟩

theorem c_impl_LevelsOf_y (cat : List ItemV) (hc : okL ItemV.ok cat) (lines : List LineV) (hl : okL LineV.ok lines) (hb : isBillsP cat lines) : Contract Try.prog 43 [.d (lD ItemV.dat cat), .d (lD LineV.dat lines)] (.one (.own ⟨3, 1, arrF cat.length (levOf cat lines)⟩)) := by
  refine contract_by hma hTa Try.func43 (by kernel_rfl) (by kernel_rfl) ?_
  conv => whnf
  refine CallK_tr (c_impl_IsBills _ hc _ hl) (fun _ => ?_) (fun h => absurd hb h)
  conv => whnf
  refine CallK_intro (c_impl_levels_y cat hc lines hl hb.1.2 hb.2.1 (linesIn_of hb.2.2.1) hb.2.2.2) ?_
  conv => whnf
  exact ⟨rfl, rfl, rfl, rfl⟩
theorem c_impl_LevelsOf_n (cat : List ItemV) (hc : okL ItemV.ok cat) (lines : List LineV) (hl : okL LineV.ok lines) (hb : ¬ isBillsP cat lines) : Contract Try.prog 43 [.d (lD ItemV.dat cat), .d (lD LineV.dat lines)] (.one (.d (.sl []))) := by
  refine contract_by hma hTa Try.func43 (by kernel_rfl) (by kernel_rfl) ?_
  conv => whnf
  refine CallK_tr (c_impl_IsBills _ hc _ hl) (fun h => absurd h hb) (fun _ => ?_)
  conv => whnf
  all_goals exact rfl

end Go.DL
