/- Contracts of functions of the program, at this seat: what each call returns, by its arguments as data; each states its own conditions. -/
import Derived.Test.YthifncefbpmdiaaTB
import Derived.Test.YthifncefbpmdiaaP5
namespace Go.DL
set_option maxRecDepth 100000
set_option maxHeartbeats 2000000
set_option linter.unusedSimpArgs false
set_option linter.unusedVariables false
open Go.RowKit Go.Proofs Go.Proofs.Ythifncefbpmdiaa

open Classical in
noncomputable def levelsN (cat : List ItemV) (lines : List LineV) : List Int := if isBillsP cat lines then (List.range cat.length).map (levOf cat lines) else []
theorem arrF_map (n : Nat) (f : Nat → Int) : arrF n f = ((List.range n).map f).map iD := by simp [arrF]
theorem iD_flat (l : List Int) : FlatL (l.map iD) := flatL_map (f := iD) (fun _ => trivial) l
theorem c_impl_LevelsOf_f (cat : List ItemV) (hc : okL ItemV.ok cat) (lines : List LineV) (hl : okL LineV.ok lines) : Contract Try.prog 35 [.d (lD ItemV.dat cat), .d (lD LineV.dat lines)] (.one (.fr ⟨3, 1, (levelsN cat lines).map iD⟩)) := by
  by_cases hb : isBillsP cat lines
  · have e : (levelsN cat lines).map iD = arrF cat.length (levOf cat lines) := by rw [arrF_map]; simp [levelsN, hb]
    rw [e]
    exact (c_impl_LevelsOf_y cat hc lines hl hb).own_fr (by rw [arrF_map]; exact iD_flat _)
  · have e : (levelsN cat lines).map iD = [] := by simp [levelsN, hb]
    rw [e]
    refine contract_by hma hTa Try.func35 (by kernel_rfl) (by kernel_rfl) ?_
    conv => whnf
    refine CallK_tr (c_impl_IsBills _ hc _ hl) (fun h => absurd h hb) (fun _ => ?_)
    conv => whnf
    exact ⟨rfl, by omega⟩
theorem c_spec_LevelsOf_f (cat : List ItemV) (hc : okL ItemV.ok cat) (lines : List LineV) (hl : okL LineV.ok lines) : Contract Try.prog 32 [.d (lD ItemV.dat cat), .d (lD LineV.dat lines)] (.one (.fr ⟨3, 1, (levelsN cat lines).map iD⟩)) := by
  by_cases hb : isBillsP cat lines
  · have e : (levelsN cat lines).map iD = arrF cat.length (levOf cat lines) := by rw [arrF_map]; simp [levelsN, hb]
    rw [e]
    refine Contract.own_fr ?_ (by rw [arrF_map]; exact iD_flat _)
    refine contract_by hma hTa Try.func32 (by kernel_rfl) (by kernel_rfl) ?_
    conv => whnf
    refine CallK_tr (c_spec_IsBills _ hc _ hl) (fun _ => ?_) (fun h => absurd hb h)
    conv => whnf
    refine CallK_intro (c_spec_l9Levels_y cat hc lines hl hb.1.2 hb.2.1 (linesIn_of hb.2.2.1) hb.2.2.2) ?_
    conv => whnf
    exact ⟨rfl, rfl, rfl, rfl⟩
  · have e : (levelsN cat lines).map iD = [] := by simp [levelsN, hb]
    rw [e]
    refine contract_by hma hTa Try.func32 (by kernel_rfl) (by kernel_rfl) ?_
    conv => whnf
    refine CallK_tr (c_spec_IsBills _ hc _ hl) (fun h => absurd h hb) (fun _ => ?_)
    conv => whnf
    exact ⟨rfl, rfl, rfl, rfl, fun x hx => by simp at hx⟩

end Go.DL
