/- Contracts of functions of the program, at this seat: what each call returns, by its arguments as data; each states its own conditions. -/
import Derived.Test.YtamhoddnnifbiaaA
namespace Go.DL
set_option maxRecDepth 100000
set_option maxHeartbeats 2000000
set_option linter.unusedSimpArgs false
set_option linter.unusedVariables false
open Go.RowKit Go.Proofs Go.Proofs.Ytamhoddnnifbiaa

theorem c_impl_FindItem (l : List ItemV) (hl : okL ItemV.ok l) (s : ByteArray) : Contract Try.prog 103 [.d (lD ItemV.dat l), .d (sD s)] (.one (.d (iD (findP (fun x => x.code = s) l)))) := by
  refine contract_by hma hTa Try.func103 (by kernel_rfl) (by kernel_rfl) ?_
  obtain ⟨hlen, hok⟩ := hl
  conv => whnf
  have e1 : (List.map ItemV.dat l).length = l.length := List.length_map _
  refine LoopK_intro hma hTa [(0, .pl), (1, .pl), (4, .pl), (7, .pl), (8, .pl), (9, .pl)] (fun i : Nat => ⟨[(0, .d (lD ItemV.dat l)), (1, .d (sD s)), (4, .d (iD 0)), (7, .d (lD ItemV.dat l)), (8, .d (iD (l.map ItemV.dat).length)), (9, .d (iD i))], [], []⟩) (fun i => i ≤ l.length ∧ AllB l (fun _ (y : ItemV) => ¬ y.code = s) i) (fun i => l.length - i) (by kernel_rfl) ?_ ?_
  · conv => whnf
    exact ⟨0, ⟨by omega, AllB_zero⟩, rfl⟩
  · intro i ⟨hi, hall⟩
    conv => whnf
    repeat' first
      | (refine brLt (fun h => ?_) (fun h => ?_) <;> conv => whnf)
      | (refine brLe (fun h => ?_) (fun h => ?_) <;> conv => whnf)
      | (refine brEq (fun h => ?_) (fun h => ?_) <;> conv => whnf)
      | (refine brTr (fun h => ?_) (fun h => ?_) <;> conv => whnf)
      | (refine brNTr (fun h => ?_) (fun h => ?_) <;> conv => whnf)
      | (refine brNLt (fun h => ?_) (fun h => ?_) <;> conv => whnf)
      | (refine brNLe (fun h => ?_) (fun h => ?_) <;> conv => whnf)
      | (refine brNEq (fun h => ?_) (fun h => ?_) <;> conv => whnf)
      | (refine brStr (fun h => ?_) (fun h => ?_) <;> conv => whnf)
      | (refine brNStr (fun h => ?_) (fun h => ?_) <;> conv => whnf)
      | (refine brStrLt (fun h => ?_) (fun h => ?_) <;> conv => whnf)
      | (refine brNStrLt (fun h => ?_) (fun h => ?_) <;> conv => whnf)
      | (refine brNBEq (fun h => ?_) (fun h => ?_) <;> conv => whnf)
      | (refine brBEq (fun h => ?_) (fun h => ?_) <;> conv => whnf)
      | (refine WrK_i64 (by omega) (by omega) ?_; conv => whnf)
      | (refine takeK_full (by first | exact rfl | exact (List.length_map _).symm | exact List.length_map _ | omega) ?_; conv => whnf)
      | (refine StrK_intro _ rfl (by assumption) ?_; conv => whnf)
      | (refine IxK_map _ rfl (by assumption) ?_; conv => whnf)
      | (refine StrK_lt _ rfl (by omega) (fun b hb => ?_); conv => whnf)
      | (refine IxK_mapLt _ rfl (by (try simp only [List.length_map] at *); omega) (fun x hx => ?_); conv => whnf)
      | (refine IxK_mapI (by omega) (by (try simp only [List.length_map] at *); omega) (fun j x hj hx => ?_); conv => whnf)
      | (refine NeedK_intro (by omega) ?_; conv => whnf)
    all_goals first
      | exact iE (findP_at ‹l[i]? = some _› (by assumption) hall).symm
      | exact ⟨i + 1, ⟨get_lt ‹l[i]? = some _›, AllB_succ ‹l[i]? = some _› hall (by assumption)⟩, (by show l.length - (i + 1) < l.length - i; omega), rfl⟩
      | exact iE (findP_none (by omega) hall).symm

theorem c_spec_FindItem (l : List ItemV) (hl : okL ItemV.ok l) (s : ByteArray) : Contract Try.prog 99 [.d (lD ItemV.dat l), .d (sD s)] (.one (.d (iD (findP (fun x => x.code = s) l)))) := by
  refine contract_by hma hTa Try.func99 (by kernel_rfl) (by kernel_rfl) ?_
  obtain ⟨hlen, hok⟩ := hl
  conv => whnf
  have e1 : (List.map ItemV.dat l).length = l.length := List.length_map _
  refine LoopK_intro hma hTa [(0, .pl), (1, .pl), (4, .pl), (5, .pl)] (fun i : Nat => ⟨[(0, .d (lD ItemV.dat l)), (1, .d (sD s)), (4, .d (iD 0)), (5, .d (iD i))], [], []⟩) (fun i => i ≤ l.length ∧ AllB l (fun _ (y : ItemV) => ¬ y.code = s) i) (fun i => l.length - i) (by kernel_rfl) ?_ ?_
  · conv => whnf
    exact ⟨0, ⟨by omega, AllB_zero⟩, rfl⟩
  · intro i ⟨hi, hall⟩
    conv => whnf
    repeat' first
      | (refine brLt (fun h => ?_) (fun h => ?_) <;> conv => whnf)
      | (refine brLe (fun h => ?_) (fun h => ?_) <;> conv => whnf)
      | (refine brEq (fun h => ?_) (fun h => ?_) <;> conv => whnf)
      | (refine brTr (fun h => ?_) (fun h => ?_) <;> conv => whnf)
      | (refine brNTr (fun h => ?_) (fun h => ?_) <;> conv => whnf)
      | (refine brNLt (fun h => ?_) (fun h => ?_) <;> conv => whnf)
      | (refine brNLe (fun h => ?_) (fun h => ?_) <;> conv => whnf)
      | (refine brNEq (fun h => ?_) (fun h => ?_) <;> conv => whnf)
      | (refine brStr (fun h => ?_) (fun h => ?_) <;> conv => whnf)
      | (refine brNStr (fun h => ?_) (fun h => ?_) <;> conv => whnf)
      | (refine brStrLt (fun h => ?_) (fun h => ?_) <;> conv => whnf)
      | (refine brNStrLt (fun h => ?_) (fun h => ?_) <;> conv => whnf)
      | (refine brNBEq (fun h => ?_) (fun h => ?_) <;> conv => whnf)
      | (refine brBEq (fun h => ?_) (fun h => ?_) <;> conv => whnf)
      | (refine WrK_i64 (by omega) (by omega) ?_; conv => whnf)
      | (refine takeK_full (by first | exact rfl | exact (List.length_map _).symm | exact List.length_map _ | omega) ?_; conv => whnf)
      | (refine StrK_intro _ rfl (by assumption) ?_; conv => whnf)
      | (refine IxK_map _ rfl (by assumption) ?_; conv => whnf)
      | (refine StrK_lt _ rfl (by omega) (fun b hb => ?_); conv => whnf)
      | (refine IxK_mapLt _ rfl (by (try simp only [List.length_map] at *); omega) (fun x hx => ?_); conv => whnf)
      | (refine IxK_mapI (by omega) (by (try simp only [List.length_map] at *); omega) (fun j x hj hx => ?_); conv => whnf)
      | (refine NeedK_intro (by omega) ?_; conv => whnf)
    all_goals first
      | exact iE (findP_at ‹l[i]? = some _› (by assumption) hall).symm
      | exact ⟨i + 1, ⟨get_lt ‹l[i]? = some _›, AllB_succ ‹l[i]? = some _› hall (by assumption)⟩, (by show l.length - (i + 1) < l.length - i; omega), rfl⟩
      | exact iE (findP_none (by omega) hall).symm


def isRoutingP (r : RoutingV) : Prop := (∀ x ∈ r.steps, isStepP x) ∧ isCodeP r.item ∧ 1 ≤ r.steps.length ∧ r.steps.length ≤ 6
theorem all_of {α : Type} {p : α → Prop} {l : List α} {i : Nat} (h : AllB l (fun _ x => p x) i) (hi : l.length ≤ i) : ∀ x ∈ l, p x := fun x hx => by
  obtain ⟨j, hj⟩ := List.getElem?_of_mem hx
  exact h j (by have := get_lt hj; omega) x hj

def isDemandAt (l : List DemandV) (i : Nat) (d : DemandV) : Prop := inP d.id 1 9999 ∧ isCodeP d.item ∧ inP d.quantity 1 100000 ∧ inP d.day 0 999 ∧ inP d.rank 0 9 ∧ AllB l (fun _ e => e.id ≠ d.id) i
def areDemandsP (l : List DemandV) : Prop := allP l (isDemandAt l) ∧ l.length ≤ 16

end Go.DL
