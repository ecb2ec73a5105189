/- Contracts of functions of the program, at this seat: what each call returns, by its arguments as data; each states its own conditions. -/
import Derived.Test.YthifncefbpmdiaaTC
import Derived.Test.YthifncefbpmdiaaP8
namespace Go.DL
set_option maxRecDepth 100000
set_option maxHeartbeats 2000000
set_option linter.unusedSimpArgs false
set_option linter.unusedVariables false
open Go.RowKit Go.Proofs Go.Proofs.Ythifncefbpmdiaa

open Classical in
noncomputable def parentsV (cat : List ItemV) (lines : List LineV) (p : ByteArray) (day : Int) (c : List PickV) : List ByteArray := if isBillsP cat lines then parentsN cat lines p day c else []
theorem sD_flat (l : List ByteArray) : FlatL (l.map sD) := flatL_map (f := sD) (fun _ => trivial) l
theorem c_impl_ParentsOf_f (cat : List ItemV) (hc : okL ItemV.ok cat) (lines : List LineV) (hl : okL LineV.ok lines) (p : ByteArray) (day : Int) (c : List PickV) (hcc : okL PickV.ok c) : Contract Try.prog 46 [.d (lD ItemV.dat cat), .d (lD LineV.dat lines), .d (sD p), .d (iD day), .d (lD PickV.dat c)] (.one (.fr ⟨9, 1, (parentsV cat lines p day c).map sD⟩)) := by
  by_cases hb : isBillsP cat lines
  · have e : parentsV cat lines p day c = parentsN cat lines p day c := by simp [parentsV, hb]
    rw [e]
    exact (c_impl_ParentsOf_y cat hc lines hl p day c hcc hb).own_fr (sD_flat _)
  · have e : parentsV cat lines p day c = [] := by simp [parentsV, hb]
    rw [e]
    exact (c_impl_ParentsOf_n cat hc lines hl p day c hb).own_fr (sD_flat [])
theorem c_spec_ParentsOf_f (cat : List ItemV) (hc : okL ItemV.ok cat) (lines : List LineV) (hl : okL LineV.ok lines) (p : ByteArray) (day : Int) (c : List PickV) (hcc : okL PickV.ok c) : Contract Try.prog 44 [.d (lD ItemV.dat cat), .d (lD LineV.dat lines), .d (sD p), .d (iD day), .d (lD PickV.dat c)] (.one (.fr ⟨9, 1, (parentsV cat lines p day c).map sD⟩)) := by
  by_cases hb : isBillsP cat lines
  · have e : parentsV cat lines p day c = parentsN cat lines p day c := by simp [parentsV, hb]
    rw [e]
    exact (c_spec_ParentsOf_y cat hc lines hl p day c hcc hb).own_fr (sD_flat _)
  · have e : parentsV cat lines p day c = [] := by simp [parentsV, hb]
    rw [e]
    exact (c_spec_ParentsOf_n cat hc lines hl p day c hb).own_fr (sD_flat [])
theorem parentsV_ok (cat : List ItemV) (hc : okL ItemV.ok cat) (lines : List LineV) (p : ByteArray) (day : Int) (c : List PickV) : okL okS (parentsV cat lines p day c) ∧ (parentsV cat lines p day c).length ≤ cat.length := by
  by_cases hb : isBillsP cat lines
  · have e : parentsV cat lines p day c = parentsN cat lines p day c := by simp [parentsV, hb]
    rw [e]
    unfold parentsN
    have hlen : (keepN (parP lines p day c) cat).length ≤ cat.length := keep_len _ _
    refine ⟨⟨by rw [List.length_map]; exact Nat.le_trans hlen hc.1, fun v hv => ?_⟩, by rw [List.length_map]; exact hlen⟩
    obtain ⟨x, hx, rfl⟩ := List.mem_map.1 hv
    exact (hc.2 x (keep_mem.1 hx).1).1
  · have e : parentsV cat lines p day c = [] := by simp [parentsV, hb]
    rw [e]; exact ⟨⟨by simp, by simp⟩, by simp⟩

end Go.DL
