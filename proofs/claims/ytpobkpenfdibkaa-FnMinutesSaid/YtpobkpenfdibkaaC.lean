/- Contracts of functions of the program, at this seat: what each call returns, by its arguments as data; each states its own conditions. -/
import Derived.Test.YtpobkpenfdibkaaA
namespace Go.DL
set_option maxRecDepth 100000
set_option maxHeartbeats 2000000
set_option linter.unusedSimpArgs false
set_option linter.unusedVariables false
open Go.RowKit Go.Proofs Go.Proofs.Ytpobkpenfdibkaa

theorem c_impl_FindItem (l : List ItemV) (hl : okL ItemV.ok l) (s : ByteArray) : Contract Try.prog 92 [.d (lD ItemV.dat l), .d (sD s)] (.one (.d (iD (findP (fun x => x.code = s) l)))) := by
  refine contract_by hma hTa Try.func92 (by kernel_rfl) (by kernel_rfl) ?_
  obtain ⟨hlen, hok⟩ := hl
  conv => whnf
  have e1 : (List.map ItemV.dat l).length = l.length := List.length_map _
  refine LoopK_intro hma hTa [(0, .pl), (1, .pl), (4, .pl), (7, .pl), (8, .pl), (9, .pl)] (fun i : Nat => ⟨[(0, .d (lD ItemV.dat l)), (1, .d (sD s)), (4, .d (iD 0)), (7, .d (lD ItemV.dat l)), (8, .d (iD (l.map ItemV.dat).length)), (9, .d (iD i))], [], []⟩) (fun i => i ≤ l.length ∧ AllB l (fun _ (y : ItemV) => ¬ y.code = s) i) (fun i => l.length - i) (by kernel_rfl) ?_ ?_
  · conv => whnf
    exact ⟨0, ⟨by omega, AllB_zero⟩, rfl⟩
  · intro i ⟨hi, hall⟩
    conv => whnf
    repeat' first
      | (refine brLt (fun h => ?_) (fun h => ?_) <;> conv => whnf)
      | (refine brLe (fun h => ?_) (fun h => ?_) <;> conv => whnf)
      | (refine brEq (fun h => ?_) (fun h => ?_) <;> conv => whnf)
      | (refine brTr (fun h => ?_) (fun h => ?_) <;> conv => whnf)
      | (refine brNTr (fun h => ?_) (fun h => ?_) <;> conv => whnf)
      | (refine brNLt (fun h => ?_) (fun h => ?_) <;> conv => whnf)
      | (refine brNLe (fun h => ?_) (fun h => ?_) <;> conv => whnf)
      | (refine brNEq (fun h => ?_) (fun h => ?_) <;> conv => whnf)
      | (refine brStr (fun h => ?_) (fun h => ?_) <;> conv => whnf)
      | (refine brNStr (fun h => ?_) (fun h => ?_) <;> conv => whnf)
      | (refine brStrLt (fun h => ?_) (fun h => ?_) <;> conv => whnf)
      | (refine brNStrLt (fun h => ?_) (fun h => ?_) <;> conv => whnf)
      | (refine brNBEq (fun h => ?_) (fun h => ?_) <;> conv => whnf)
      | (refine brBEq (fun h => ?_) (fun h => ?_) <;> conv => whnf)
      | (refine WrK_i64 (by omega) (by omega) ?_; conv => whnf)
      | (refine takeK_full (by first | exact rfl | exact (List.length_map _).symm | exact List.length_map _ | omega) ?_; conv => whnf)
      | (refine StrK_intro _ rfl (by assumption) ?_; conv => whnf)
      | (refine IxK_map _ rfl (by assumption) ?_; conv => whnf)
      | (refine StrK_lt _ rfl (by omega) (fun b hb => ?_); conv => whnf)
      | (refine IxK_mapLt _ rfl (by (try simp only [List.length_map] at *); omega) (fun x hx => ?_); conv => whnf)
      | (refine IxK_mapI (by omega) (by (try simp only [List.length_map] at *); omega) (fun j x hj hx => ?_); conv => whnf)
      | (refine NeedK_intro (by omega) ?_; conv => whnf)
    all_goals first
      | exact iE (findP_at ‹l[i]? = some _› (by assumption) hall).symm
      | exact ⟨i + 1, ⟨get_lt ‹l[i]? = some _›, AllB_succ ‹l[i]? = some _› hall (by assumption)⟩, (by show l.length - (i + 1) < l.length - i; omega), rfl⟩
      | exact iE (findP_none (by omega) hall).symm

theorem c_spec_FindItem (l : List ItemV) (hl : okL ItemV.ok l) (s : ByteArray) : Contract Try.prog 91 [.d (lD ItemV.dat l), .d (sD s)] (.one (.d (iD (findP (fun x => x.code = s) l)))) := by
  refine contract_by hma hTa Try.func91 (by kernel_rfl) (by kernel_rfl) ?_
  obtain ⟨hlen, hok⟩ := hl
  conv => whnf
  have e1 : (List.map ItemV.dat l).length = l.length := List.length_map _
  refine LoopK_intro hma hTa [(0, .pl), (1, .pl), (4, .pl), (5, .pl)] (fun i : Nat => ⟨[(0, .d (lD ItemV.dat l)), (1, .d (sD s)), (4, .d (iD 0)), (5, .d (iD i))], [], []⟩) (fun i => i ≤ l.length ∧ AllB l (fun _ (y : ItemV) => ¬ y.code = s) i) (fun i => l.length - i) (by kernel_rfl) ?_ ?_
  · conv => whnf
    exact ⟨0, ⟨by omega, AllB_zero⟩, rfl⟩
  · intro i ⟨hi, hall⟩
    conv => whnf
    repeat' first
      | (refine brLt (fun h => ?_) (fun h => ?_) <;> conv => whnf)
      | (refine brLe (fun h => ?_) (fun h => ?_) <;> conv => whnf)
      | (refine brEq (fun h => ?_) (fun h => ?_) <;> conv => whnf)
      | (refine brTr (fun h => ?_) (fun h => ?_) <;> conv => whnf)
      | (refine brNTr (fun h => ?_) (fun h => ?_) <;> conv => whnf)
      | (refine brNLt (fun h => ?_) (fun h => ?_) <;> conv => whnf)
      | (refine brNLe (fun h => ?_) (fun h => ?_) <;> conv => whnf)
      | (refine brNEq (fun h => ?_) (fun h => ?_) <;> conv => whnf)
      | (refine brStr (fun h => ?_) (fun h => ?_) <;> conv => whnf)
      | (refine brNStr (fun h => ?_) (fun h => ?_) <;> conv => whnf)
      | (refine brStrLt (fun h => ?_) (fun h => ?_) <;> conv => whnf)
      | (refine brNStrLt (fun h => ?_) (fun h => ?_) <;> conv => whnf)
      | (refine brNBEq (fun h => ?_) (fun h => ?_) <;> conv => whnf)
      | (refine brBEq (fun h => ?_) (fun h => ?_) <;> conv => whnf)
      | (refine WrK_i64 (by omega) (by omega) ?_; conv => whnf)
      | (refine takeK_full (by first | exact rfl | exact (List.length_map _).symm | exact List.length_map _ | omega) ?_; conv => whnf)
      | (refine StrK_intro _ rfl (by assumption) ?_; conv => whnf)
      | (refine IxK_map _ rfl (by assumption) ?_; conv => whnf)
      | (refine StrK_lt _ rfl (by omega) (fun b hb => ?_); conv => whnf)
      | (refine IxK_mapLt _ rfl (by (try simp only [List.length_map] at *); omega) (fun x hx => ?_); conv => whnf)
      | (refine IxK_mapI (by omega) (by (try simp only [List.length_map] at *); omega) (fun j x hj hx => ?_); conv => whnf)
      | (refine NeedK_intro (by omega) ?_; conv => whnf)
    all_goals first
      | exact iE (findP_at ‹l[i]? = some _› (by assumption) hall).symm
      | exact ⟨i + 1, ⟨get_lt ‹l[i]? = some _›, AllB_succ ‹l[i]? = some _› hall (by assumption)⟩, (by show l.length - (i + 1) < l.length - i; omega), rfl⟩
      | exact iE (findP_none (by omega) hall).symm


def isRoutingP (r : RoutingV) : Prop := (∀ x ∈ r.steps, isStepP x) ∧ isCodeP r.item ∧ 1 ≤ r.steps.length ∧ r.steps.length ≤ 6
theorem all_of {α : Type} {p : α → Prop} {l : List α} {i : Nat} (h : AllB l (fun _ x => p x) i) (hi : l.length ≤ i) : ∀ x ∈ l, p x := fun x hx => by
  obtain ⟨j, hj⟩ := List.getElem?_of_mem hx
  exact h j (by have := get_lt hj; omega) x hj

theorem c_impl_IsRouting (r : RoutingV) (hr : r.ok) : Contract Try.prog 65 [.d r.dat] (.one (.d (bD (tr (isRoutingP r))))) := by
  refine contract_by hma hTa Try.func65 (by kernel_rfl) (by kernel_rfl) ?_
  obtain ⟨k0, hlen, hok⟩ := hr
  conv => whnf
  have e1 : (List.map StepV.dat r.steps).length = r.steps.length := List.length_map _
  refine LoopK_intro hma hTa [(1, .key 1), (2, .pl), (6, .pl), (7, .pl), (8, .pl)] (fun i : Nat => ⟨[(1, .ae 1 0), (2, .d (bD false)), (6, .d (lD StepV.dat r.steps)), (7, .d (iD (r.steps.map StepV.dat).length)), (8, .d (iD i))], [(1, some ⟨26, 2, [r.dat]⟩)], []⟩) (fun i => i ≤ r.steps.length ∧ AllB r.steps (fun _ x => isStepP x) i) (fun i => r.steps.length - i) (by kernel_rfl) ?_ ?_
  · conv => whnf
    exact ⟨0, ⟨by omega, AllB_zero⟩, rfl⟩
  · intro i ⟨hi, hall⟩
    conv => whnf
    repeat' first
      | (refine brLt (fun h => ?_) (fun h => ?_) <;> conv => whnf)
      | (refine brLe (fun h => ?_) (fun h => ?_) <;> conv => whnf)
      | (refine brEq (fun h => ?_) (fun h => ?_) <;> conv => whnf)
      | (refine brTr (fun h => ?_) (fun h => ?_) <;> conv => whnf)
      | (refine brNTr (fun h => ?_) (fun h => ?_) <;> conv => whnf)
      | (refine brNLt (fun h => ?_) (fun h => ?_) <;> conv => whnf)
      | (refine brNLe (fun h => ?_) (fun h => ?_) <;> conv => whnf)
      | (refine brNEq (fun h => ?_) (fun h => ?_) <;> conv => whnf)
      | (refine brStr (fun h => ?_) (fun h => ?_) <;> conv => whnf)
      | (refine brNStr (fun h => ?_) (fun h => ?_) <;> conv => whnf)
      | (refine brStrLt (fun h => ?_) (fun h => ?_) <;> conv => whnf)
      | (refine brNStrLt (fun h => ?_) (fun h => ?_) <;> conv => whnf)
      | (refine brNBEq (fun h => ?_) (fun h => ?_) <;> conv => whnf)
      | (refine brBEq (fun h => ?_) (fun h => ?_) <;> conv => whnf)
      | (refine CallK_intro (c_impl_IsStep _ (hok _ (get_mem ‹_›))) ?_; conv => whnf)
      | (refine CallK_intro (c_impl_IsCode _ (by assumption)) ?_; conv => whnf)
      | (refine CallK_intro (c_impl_in _ _ _) ?_; conv => whnf)
      | (refine WrK_i64 (by omega) (by omega) ?_; conv => whnf)
      | (refine takeK_full (by first | exact rfl | exact (List.length_map _).symm | exact List.length_map _ | omega) ?_; conv => whnf)
      | (refine StrK_intro _ rfl (by assumption) ?_; conv => whnf)
      | (refine IxK_map _ rfl (by assumption) ?_; conv => whnf)
      | (refine StrK_lt _ rfl (by omega) (fun b hb => ?_); conv => whnf)
      | (refine IxK_mapLt _ rfl (by (try simp only [List.length_map] at *); omega) (fun x hx => ?_); conv => whnf)
      | (refine IxK_mapI (by omega) (by (try simp only [List.length_map] at *); omega) (fun j x hj hx => ?_); conv => whnf)
      | (refine NeedK_intro (by omega) ?_; conv => whnf)
    all_goals first
      | exact bF (fun hp => ‹¬ isStepP _› (hp.1 _ (get_mem ‹r.steps[i]? = some _›)))
      | exact ⟨i + 1, ⟨get_lt ‹r.steps[i]? = some _›, AllB_succ ‹r.steps[i]? = some _› hall (by assumption)⟩, (by show r.steps.length - (i + 1) < r.steps.length - i; omega), rfl⟩
      | exact bF (fun hp => by have := hp.2; grind)
      | exact bP ⟨fun h => ⟨all_of hall (by omega), by assumption, by omega⟩, fun h => by have := h.2; omega⟩

theorem c_spec_IsRouting (r : RoutingV) (hr : r.ok) : Contract Try.prog 68 [.d r.dat] (.one (.d (bD (tr (isRoutingP r))))) := by
  refine contract_by hma hTa Try.func68 (by kernel_rfl) (by kernel_rfl) ?_
  obtain ⟨k0, hlen, hok⟩ := hr
  conv => whnf
  have e1 : (List.map StepV.dat r.steps).length = r.steps.length := List.length_map _
  refine LoopK_intro hma hTa [(1, .key 1), (2, .pl), (3, .pl)] (fun i : Nat => ⟨[(1, .ae 1 0), (2, .d (bD false)), (3, .d (iD i))], [(1, some ⟨26, 2, [r.dat]⟩)], []⟩) (fun i => i ≤ r.steps.length ∧ AllB r.steps (fun _ x => isStepP x) i) (fun i => r.steps.length - i) (by kernel_rfl) ?_ ?_
  · conv => whnf
    exact ⟨0, ⟨by omega, AllB_zero⟩, rfl⟩
  · intro i ⟨hi, hall⟩
    conv => whnf
    repeat' first
      | (refine brLt (fun h => ?_) (fun h => ?_) <;> conv => whnf)
      | (refine brLe (fun h => ?_) (fun h => ?_) <;> conv => whnf)
      | (refine brEq (fun h => ?_) (fun h => ?_) <;> conv => whnf)
      | (refine brTr (fun h => ?_) (fun h => ?_) <;> conv => whnf)
      | (refine brNTr (fun h => ?_) (fun h => ?_) <;> conv => whnf)
      | (refine brNLt (fun h => ?_) (fun h => ?_) <;> conv => whnf)
      | (refine brNLe (fun h => ?_) (fun h => ?_) <;> conv => whnf)
      | (refine brNEq (fun h => ?_) (fun h => ?_) <;> conv => whnf)
      | (refine brStr (fun h => ?_) (fun h => ?_) <;> conv => whnf)
      | (refine brNStr (fun h => ?_) (fun h => ?_) <;> conv => whnf)
      | (refine brStrLt (fun h => ?_) (fun h => ?_) <;> conv => whnf)
      | (refine brNStrLt (fun h => ?_) (fun h => ?_) <;> conv => whnf)
      | (refine brNBEq (fun h => ?_) (fun h => ?_) <;> conv => whnf)
      | (refine brBEq (fun h => ?_) (fun h => ?_) <;> conv => whnf)
      | (refine CallK_intro (c_spec_IsStep _ (hok _ (get_mem ‹_›))) ?_; conv => whnf)
      | (refine CallK_intro (c_spec_IsCode _ (by assumption)) ?_; conv => whnf)
      | (refine CallK_intro (c_spec_l1In _ _ _) ?_; conv => whnf)
      | (refine WrK_i64 (by omega) (by omega) ?_; conv => whnf)
      | (refine takeK_full (by first | exact rfl | exact (List.length_map _).symm | exact List.length_map _ | omega) ?_; conv => whnf)
      | (refine StrK_intro _ rfl (by assumption) ?_; conv => whnf)
      | (refine IxK_map _ rfl (by assumption) ?_; conv => whnf)
      | (refine StrK_lt _ rfl (by omega) (fun b hb => ?_); conv => whnf)
      | (refine IxK_mapLt _ rfl (by (try simp only [List.length_map] at *); omega) (fun x hx => ?_); conv => whnf)
      | (refine IxK_mapI (by omega) (by (try simp only [List.length_map] at *); omega) (fun j x hj hx => ?_); conv => whnf)
      | (refine NeedK_intro (by omega) ?_; conv => whnf)
    all_goals first
      | exact bF (fun hp => ‹¬ isStepP _› (hp.1 _ (get_mem ‹r.steps[i]? = some _›)))
      | exact ⟨i + 1, ⟨get_lt ‹r.steps[i]? = some _›, AllB_succ ‹r.steps[i]? = some _› hall (by assumption)⟩, (by show r.steps.length - (i + 1) < r.steps.length - i; omega), rfl⟩
      | exact bF (fun hp => by have := hp.2; grind)
      | exact bP ⟨fun h => ⟨all_of hall (by omega), by assumption, by omega⟩, fun h => by have := h.2; omega⟩

def isDemandAt (l : List DemandV) (i : Nat) (d : DemandV) : Prop := inP d.id 1 9999 ∧ isCodeP d.item ∧ inP d.quantity 1 100000 ∧ inP d.day 0 999 ∧ inP d.rank 0 9 ∧ AllB l (fun _ e => e.id ≠ d.id) i
def areDemandsP (l : List DemandV) : Prop := allP l (isDemandAt l) ∧ l.length ≤ 16

theorem c_impl_AreDemands (l : List DemandV) (hl : okL DemandV.ok l) : Contract Try.prog 82 [.d (lD DemandV.dat l)] (.one (.d (bD (tr (areDemandsP l))))) := by
  refine contract_by hma hTa Try.func82 (by kernel_rfl) (by kernel_rfl) ?_
  obtain ⟨hlen, hok⟩ := hl
  conv => whnf
  have e1 : (List.map DemandV.dat l).length = l.length := List.length_map _
  refine LoopK_intro hma hTa [(0, .pl), (2, .pl), (7, .pl), (8, .pl), (9, .pl)] (fun i : Nat => ⟨[(0, .d (lD DemandV.dat l)), (2, .d (bD false)), (7, .d (lD DemandV.dat l)), (8, .d (iD (l.map DemandV.dat).length)), (9, .d (iD i))], [], []⟩) (fun i => i ≤ l.length ∧ AllB l (isDemandAt l) i) (fun i => l.length - i) (by kernel_rfl) ?_ ?_
  · conv => whnf
    exact ⟨0, ⟨by omega, AllB_zero⟩, rfl⟩
  · intro i ⟨hi, hall⟩
    conv => whnf
    repeat' first
      | (refine brLt (fun h => ?_) (fun h => ?_) <;> conv => whnf)
      | (refine brNTr (fun h => ?_) (fun h => ?_) <;> conv => whnf)
      | (refine CallK_intro (c_impl_in _ _ _) ?_; conv => whnf)
      | (refine CallK_intro (c_impl_IsCode _ (by assumption)) ?_; conv => whnf)
      | (refine IxK_mapLt _ rfl (by omega) (fun d hd => ?_); (conv => whnf); obtain ⟨k0, k1, k2, k3, k4⟩ := hok _ (get_mem hd))
    all_goals first
      | exact bF (fun hp => allP_not ‹l[i]? = some _› (by unfold isDemandAt; grind) hp.1)
      | exact bB ⟨fun h => ⟨allP_of hall (by omega), by rw [leB_iff] at h; omega⟩, fun h => by rw [leB_iff]; have := h.2; omega⟩
      | skip
    have hil := get_lt hd
    refine SlK_intro 0 i rfl rfl (by omega) (by omega) (wd fun _ => rfl) (zs := (l.take i).map DemandV.dat) (by simp) ?_
    conv => whnf
    have e2 : ((l.take i).map DemandV.dat).length = i := by simp; omega
    have e3 : (l.take i).length = i := by simp; omega
    refine LoopK_intro hma hTa [(0, .pl), (2, .pl), (7, .pl), (8, .pl), (9, .pl), (4, .key 4), (44, .pl), (45, .pl), (46, .pl)] (fun j : Nat => ⟨[(0, .d (lD DemandV.dat l)), (2, .d (bD false)), (7, .d (lD DemandV.dat l)), (8, .d (iD (l.map DemandV.dat).length)), (9, .d (iD i)), (4, .ae 4 0), (44, .d (lD DemandV.dat (l.take i))), (45, .d (iD ((l.take i).map DemandV.dat).length)), (46, .d (iD j))], [(4, some ⟨116, 5, [d.dat]⟩)], []⟩) (fun j => j ≤ i ∧ AllB l (fun _ e => e.id ≠ d.id) j) (fun j => i - j) (by kernel_rfl) ?_ ?_
    · conv => whnf
      exact ⟨0, ⟨by omega, AllB_zero⟩, rfl⟩
    · intro j ⟨hj, hall2⟩
      conv => whnf
      repeat' first
        | (refine brLt (fun h => ?_) (fun h => ?_) <;> conv => whnf)
        | (refine brEq (fun h => ?_) (fun h => ?_) <;> conv => whnf)
        | (refine IxK_mapLt _ rfl (by omega) (fun e he => ?_); (conv => whnf); replace he := (get_take he).1)
        | (refine WrK_i64 (by omega) (by omega) ?_; conv => whnf)
      all_goals first
        | exact bF (fun hp => allP_not hd (fun hq => hq.2.2.2.2.2 j (by omega) _ ‹l[j]? = some _› (by assumption)) hp.1)
        | exact ⟨j + 1, ⟨by omega, AllB_succ ‹l[j]? = some _› hall2 (by assumption)⟩, (by show i - (j + 1) < i - j; omega), rfl⟩
        | exact ⟨i + 1, ⟨get_lt hd, AllB_succ hd hall ⟨by assumption, by assumption, by assumption, by assumption, by assumption, by rwa [show j = i from by omega] at hall2⟩⟩, (by show l.length - (i + 1) < l.length - i; omega), rfl⟩

theorem c_spec_AreDemands (l : List DemandV) (hl : okL DemandV.ok l) : Contract Try.prog 80 [.d (lD DemandV.dat l)] (.one (.d (bD (tr (areDemandsP l))))) := by
  refine contract_by hma hTa Try.func80 (by kernel_rfl) (by kernel_rfl) ?_
  obtain ⟨hlen, hok⟩ := hl
  conv => whnf
  have e1 : (List.map DemandV.dat l).length = l.length := List.length_map _
  refine LoopK_intro hma hTa [(0, .pl), (2, .pl), (3, .pl)] (fun i : Nat => ⟨[(0, .d (lD DemandV.dat l)), (2, .d (bD false)), (3, .d (iD i))], [], []⟩) (fun i => i ≤ l.length ∧ AllB l (isDemandAt l) i) (fun i => l.length - i) (by kernel_rfl) ?_ ?_
  · conv => whnf
    exact ⟨0, ⟨by omega, AllB_zero⟩, rfl⟩
  · intro i ⟨hi, hall⟩
    conv => whnf
    repeat' first
      | (refine brLt (fun h => ?_) (fun h => ?_) <;> conv => whnf)
      | (refine brLe (fun h => ?_) (fun h => ?_) <;> conv => whnf)
      | (refine brNTr (fun h => ?_) (fun h => ?_) <;> conv => whnf)
      | (refine CallK_intro (c_spec_l1In _ _ _) ?_; conv => whnf)
      | (refine CallK_intro (c_spec_IsCode _ (by assumption)) ?_; conv => whnf)
      | (refine IxK_mapLt _ rfl (by omega) (fun d hd => ?_); (conv => whnf); obtain ⟨k0, k1, k2, k3, k4⟩ := hok _ (get_mem hd))
    all_goals first
      | exact bF (fun hp => allP_not ‹l[i]? = some _› (by unfold isDemandAt; grind) hp.1)
      | exact bB ⟨fun h => ⟨allP_of hall (by rw [leB_iff] at h; omega), by rw [leB_iff] at h; omega⟩, fun h => by rw [leB_iff]; have := h.2; omega⟩
      | skip
    have hil := get_lt hd
    refine LoopK_intro hma hTa [(0, .pl), (2, .pl), (3, .pl), (4, .key 4), (5, .pl)] (fun j : Nat => ⟨[(0, .d (lD DemandV.dat l)), (2, .d (bD false)), (3, .d (iD i)), (4, .ae 4 0), (5, .d (iD j))], [(4, some ⟨116, 5, [d.dat]⟩)], []⟩) (fun j => j ≤ i ∧ AllB l (fun _ e => e.id ≠ d.id) j) (fun j => i - j) (by kernel_rfl) ?_ ?_
    · conv => whnf
      exact ⟨0, ⟨by omega, AllB_zero⟩, rfl⟩
    · intro j ⟨hj, hall2⟩
      conv => whnf
      repeat' first
        | (refine brLt (fun h => ?_) (fun h => ?_) <;> conv => whnf)
        | (refine brLe (fun h => ?_) (fun h => ?_) <;> conv => whnf)
        | (refine brEq (fun h => ?_) (fun h => ?_) <;> conv => whnf)
        | (refine brTr (fun h => ?_) (fun h => ?_) <;> conv => whnf)
        | (refine brNTr (fun h => ?_) (fun h => ?_) <;> conv => whnf)
        | (refine brNLt (fun h => ?_) (fun h => ?_) <;> conv => whnf)
        | (refine brNLe (fun h => ?_) (fun h => ?_) <;> conv => whnf)
        | (refine brNEq (fun h => ?_) (fun h => ?_) <;> conv => whnf)
        | (refine brStr (fun h => ?_) (fun h => ?_) <;> conv => whnf)
        | (refine brNStr (fun h => ?_) (fun h => ?_) <;> conv => whnf)
        | (refine brStrLt (fun h => ?_) (fun h => ?_) <;> conv => whnf)
        | (refine brNStrLt (fun h => ?_) (fun h => ?_) <;> conv => whnf)
        | (refine brNBEq (fun h => ?_) (fun h => ?_) <;> conv => whnf)
        | (refine brBEq (fun h => ?_) (fun h => ?_) <;> conv => whnf)
        | (refine WrK_i64 (by omega) (by omega) ?_; conv => whnf)
        | (refine takeK_full (by first | exact rfl | exact (List.length_map _).symm | exact List.length_map _ | omega) ?_; conv => whnf)
        | (refine StrK_intro _ rfl (by assumption) ?_; conv => whnf)
        | (refine IxK_map _ rfl (by assumption) ?_; conv => whnf)
        | (refine StrK_lt _ rfl (by omega) (fun b hb => ?_); conv => whnf)
        | (refine IxK_mapLt _ rfl (by (try simp only [List.length_map] at *); omega) (fun x hx => ?_); conv => whnf)
        | (refine IxK_mapI (by omega) (by (try simp only [List.length_map] at *); omega) (fun j x hj hx => ?_); conv => whnf)
        | (refine NeedK_intro (by omega) ?_; conv => whnf)
      all_goals first
        | exact bF (fun hp => allP_not hd (fun hq => hq.2.2.2.2.2 j (by omega) _ ‹l[j]? = some _› (by assumption)) hp.1)
        | exact ⟨j + 1, ⟨by omega, AllB_succ ‹l[j]? = some _› hall2 (by assumption)⟩, (by show i - (j + 1) < i - j; omega), rfl⟩
        | exact ⟨i + 1, ⟨get_lt hd, AllB_succ hd hall ⟨by assumption, by assumption, by assumption, by assumption, by assumption, by rwa [show j = i from by omega] at hall2⟩⟩, (by show l.length - (i + 1) < l.length - i; omega), rfl⟩

end Go.DL
