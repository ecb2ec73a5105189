/- Contracts of functions of the program, at this seat: what each call returns, by its arguments as data; each states its own conditions. -/
import Derived.Test.YtpobkpenfdibkaaC
namespace Go.DL
set_option maxRecDepth 100000
set_option maxHeartbeats 2000000
set_option linter.unusedSimpArgs false
set_option linter.unusedVariables false
open Go.RowKit Go.Proofs Go.Proofs.Ytpobkpenfdibkaa

abbrev bLt (a b : ByteArray) : Prop := Op.bytesLess a.toList b.toList = true
def isItemAt (l : List ItemV) (i : Nat) (x : ItemV) : Prop := isItemP x ∧ ∀ e, 0 < i → l[i-1]? = some e → bLt e.code x.code
def isCatalogP (l : List ItemV) : Prop := allP l (isItemAt l) ∧ l.length ≤ 12
def isRoutingAt (l : List RoutingV) (i : Nat) (x : RoutingV) : Prop := isRoutingP x ∧ ∀ e, 0 < i → l[i-1]? = some e → bLt e.item x.item
def areRoutingsP (l : List RoutingV) : Prop := allP l (isRoutingAt l) ∧ l.length ≤ 12


theorem c_impl_IsCatalog (l : List ItemV) (hl : okL ItemV.ok l) : Contract Try.prog 35 [.d (lD ItemV.dat l)] (.one (.d (bD (tr (isCatalogP l))))) := by
  refine contract_by hma hTa Try.func35 (by kernel_rfl) (by kernel_rfl) ?_
  obtain ⟨hlen, hok⟩ := hl
  conv => whnf
  have e1 : (List.map ItemV.dat l).length = l.length := List.length_map _
  refine LoopK_intro hma hTa [(0, .pl), (2, .pl), (5, .pl), (6, .pl), (7, .pl)] (fun i : Nat => ⟨[(0, .d (lD ItemV.dat l)), (2, .d (bD false)), (5, .d (lD ItemV.dat l)), (6, .d (iD (l.map ItemV.dat).length)), (7, .d (iD i))], [], []⟩) (fun i => i ≤ l.length ∧ AllB l (isItemAt l) i) (fun i => l.length - i) (by kernel_rfl) ?_ ?_
  · conv => whnf
    exact ⟨0, ⟨by omega, AllB_zero⟩, rfl⟩
  · intro i ⟨hi, hall⟩
    conv => whnf
    repeat' first
      | (refine brLt (fun h => ?_) (fun h => ?_) <;> conv => whnf)
      | (refine brLe (fun h => ?_) (fun h => ?_) <;> conv => whnf)
      | (refine brEq (fun h => ?_) (fun h => ?_) <;> conv => whnf)
      | (refine brTr (fun h => ?_) (fun h => ?_) <;> conv => whnf)
      | (refine brNTr (fun h => ?_) (fun h => ?_) <;> conv => whnf)
      | (refine brNLt (fun h => ?_) (fun h => ?_) <;> conv => whnf)
      | (refine brNLe (fun h => ?_) (fun h => ?_) <;> conv => whnf)
      | (refine brNEq (fun h => ?_) (fun h => ?_) <;> conv => whnf)
      | (refine brStr (fun h => ?_) (fun h => ?_) <;> conv => whnf)
      | (refine brNStr (fun h => ?_) (fun h => ?_) <;> conv => whnf)
      | (refine brStrLt (fun h => ?_) (fun h => ?_) <;> conv => whnf)
      | (refine brNStrLt (fun h => ?_) (fun h => ?_) <;> conv => whnf)
      | (refine brNBEq (fun h => ?_) (fun h => ?_) <;> conv => whnf)
      | (refine brBEq (fun h => ?_) (fun h => ?_) <;> conv => whnf)
      | (refine CallK_intro (c_impl_IsItem _ (hok _ (get_mem ‹_›))) ?_; conv => whnf)
      | (refine WrK_i64 (by omega) (by omega) ?_; conv => whnf)
      | (refine takeK_full (by first | exact rfl | exact (List.length_map _).symm | exact List.length_map _ | omega) ?_; conv => whnf)
      | (refine StrK_intro _ rfl (by assumption) ?_; conv => whnf)
      | (refine IxK_map _ rfl (by assumption) ?_; conv => whnf)
      | (refine StrK_lt _ rfl (by omega) (fun b hb => ?_); conv => whnf)
      | (refine IxK_mapLt _ rfl (by (try simp only [List.length_map] at *); omega) (fun x hx => ?_); conv => whnf)
      | (refine IxK_mapI (by omega) (by (try simp only [List.length_map] at *); omega) (fun j x hj hx => ?_); conv => whnf)
      | (refine NeedK_intro (by omega) ?_; conv => whnf)
    all_goals first
      | exact bF (fun hp => allP_not ‹l[i]? = some _› (by unfold isItemAt; grind) hp.1)
      | exact ⟨i + 1, ⟨get_lt ‹l[i]? = some _›, AllB_succ ‹l[i]? = some _› hall (by unfold isItemAt; grind)⟩, (by show l.length - (i + 1) < l.length - i; omega), rfl⟩
      | exact bB ⟨fun h => ⟨allP_of hall (by omega), by rw [leB_iff] at h; omega⟩, fun h => by rw [leB_iff]; have := h.2; omega⟩


theorem c_spec_IsCatalog (l : List ItemV) (hl : okL ItemV.ok l) : Contract Try.prog 33 [.d (lD ItemV.dat l)] (.one (.d (bD (tr (isCatalogP l))))) := by
  refine contract_by hma hTa Try.func33 (by kernel_rfl) (by kernel_rfl) ?_
  obtain ⟨hlen, hok⟩ := hl
  conv => whnf
  have e1 : (List.map ItemV.dat l).length = l.length := List.length_map _
  refine LoopK_intro hma hTa [(0, .pl), (2, .pl), (3, .pl)] (fun i : Nat => ⟨[(0, .d (lD ItemV.dat l)), (2, .d (bD false)), (3, .d (iD i))], [], []⟩) (fun i => i ≤ l.length ∧ AllB l (isItemAt l) i) (fun i => l.length - i) (by kernel_rfl) ?_ ?_
  · conv => whnf
    exact ⟨0, ⟨by omega, AllB_zero⟩, rfl⟩
  · intro i ⟨hi, hall⟩
    conv => whnf
    repeat' first
      | (refine brLt (fun h => ?_) (fun h => ?_) <;> conv => whnf)
      | (refine brLe (fun h => ?_) (fun h => ?_) <;> conv => whnf)
      | (refine brEq (fun h => ?_) (fun h => ?_) <;> conv => whnf)
      | (refine brTr (fun h => ?_) (fun h => ?_) <;> conv => whnf)
      | (refine brNTr (fun h => ?_) (fun h => ?_) <;> conv => whnf)
      | (refine brNLt (fun h => ?_) (fun h => ?_) <;> conv => whnf)
      | (refine brNLe (fun h => ?_) (fun h => ?_) <;> conv => whnf)
      | (refine brNEq (fun h => ?_) (fun h => ?_) <;> conv => whnf)
      | (refine brStr (fun h => ?_) (fun h => ?_) <;> conv => whnf)
      | (refine brNStr (fun h => ?_) (fun h => ?_) <;> conv => whnf)
      | (refine brStrLt (fun h => ?_) (fun h => ?_) <;> conv => whnf)
      | (refine brNStrLt (fun h => ?_) (fun h => ?_) <;> conv => whnf)
      | (refine brNBEq (fun h => ?_) (fun h => ?_) <;> conv => whnf)
      | (refine brBEq (fun h => ?_) (fun h => ?_) <;> conv => whnf)
      | (refine CallK_intro (c_spec_IsItem _ (hok _ (get_mem ‹_›))) ?_; conv => whnf)
      | (refine WrK_i64 (by omega) (by omega) ?_; conv => whnf)
      | (refine takeK_full (by first | exact rfl | exact (List.length_map _).symm | exact List.length_map _ | omega) ?_; conv => whnf)
      | (refine StrK_intro _ rfl (by assumption) ?_; conv => whnf)
      | (refine IxK_map _ rfl (by assumption) ?_; conv => whnf)
      | (refine StrK_lt _ rfl (by omega) (fun b hb => ?_); conv => whnf)
      | (refine IxK_mapLt _ rfl (by (try simp only [List.length_map] at *); omega) (fun x hx => ?_); conv => whnf)
      | (refine IxK_mapI (by omega) (by (try simp only [List.length_map] at *); omega) (fun j x hj hx => ?_); conv => whnf)
      | (refine NeedK_intro (by omega) ?_; conv => whnf)
    all_goals first
      | exact bF (fun hp => allP_not ‹l[i]? = some _› (by unfold isItemAt; grind) hp.1)
      | exact ⟨i + 1, ⟨get_lt ‹l[i]? = some _›, AllB_succ ‹l[i]? = some _› hall (by unfold isItemAt; grind)⟩, (by show l.length - (i + 1) < l.length - i; omega), rfl⟩
      | exact bB ⟨fun h => ⟨allP_of hall (by omega), by rw [leB_iff] at h; omega⟩, fun h => by rw [leB_iff]; have := h.2; omega⟩


theorem c_impl_AreRoutings (l : List RoutingV) (hl : okL RoutingV.ok l) : Contract Try.prog 45 [.d (lD RoutingV.dat l)] (.one (.d (bD (tr (areRoutingsP l))))) := by
  refine contract_by hma hTa Try.func45 (by kernel_rfl) (by kernel_rfl) ?_
  obtain ⟨hlen, hok⟩ := hl
  conv => whnf
  have e1 : (List.map RoutingV.dat l).length = l.length := List.length_map _
  refine LoopK_intro hma hTa [(0, .pl), (2, .pl), (5, .pl), (6, .pl), (7, .pl)] (fun i : Nat => ⟨[(0, .d (lD RoutingV.dat l)), (2, .d (bD false)), (5, .d (lD RoutingV.dat l)), (6, .d (iD (l.map RoutingV.dat).length)), (7, .d (iD i))], [], []⟩) (fun i => i ≤ l.length ∧ AllB l (isRoutingAt l) i) (fun i => l.length - i) (by kernel_rfl) ?_ ?_
  · conv => whnf
    exact ⟨0, ⟨by omega, AllB_zero⟩, rfl⟩
  · intro i ⟨hi, hall⟩
    conv => whnf
    repeat' first
      | (refine brLt (fun h => ?_) (fun h => ?_) <;> conv => whnf)
      | (refine brLe (fun h => ?_) (fun h => ?_) <;> conv => whnf)
      | (refine brEq (fun h => ?_) (fun h => ?_) <;> conv => whnf)
      | (refine brTr (fun h => ?_) (fun h => ?_) <;> conv => whnf)
      | (refine brNTr (fun h => ?_) (fun h => ?_) <;> conv => whnf)
      | (refine brNLt (fun h => ?_) (fun h => ?_) <;> conv => whnf)
      | (refine brNLe (fun h => ?_) (fun h => ?_) <;> conv => whnf)
      | (refine brNEq (fun h => ?_) (fun h => ?_) <;> conv => whnf)
      | (refine brStr (fun h => ?_) (fun h => ?_) <;> conv => whnf)
      | (refine brNStr (fun h => ?_) (fun h => ?_) <;> conv => whnf)
      | (refine brStrLt (fun h => ?_) (fun h => ?_) <;> conv => whnf)
      | (refine brNStrLt (fun h => ?_) (fun h => ?_) <;> conv => whnf)
      | (refine brNBEq (fun h => ?_) (fun h => ?_) <;> conv => whnf)
      | (refine brBEq (fun h => ?_) (fun h => ?_) <;> conv => whnf)
      | (refine CallK_intro (c_impl_IsRouting _ (hok _ (get_mem ‹_›))) ?_; conv => whnf)
      | (refine WrK_i64 (by omega) (by omega) ?_; conv => whnf)
      | (refine takeK_full (by first | exact rfl | exact (List.length_map _).symm | exact List.length_map _ | omega) ?_; conv => whnf)
      | (refine StrK_intro _ rfl (by assumption) ?_; conv => whnf)
      | (refine IxK_map _ rfl (by assumption) ?_; conv => whnf)
      | (refine StrK_lt _ rfl (by omega) (fun b hb => ?_); conv => whnf)
      | (refine IxK_mapLt _ rfl (by (try simp only [List.length_map] at *); omega) (fun x hx => ?_); conv => whnf)
      | (refine IxK_mapI (by omega) (by (try simp only [List.length_map] at *); omega) (fun j x hj hx => ?_); conv => whnf)
      | (refine NeedK_intro (by omega) ?_; conv => whnf)
    all_goals first
      | exact bF (fun hp => allP_not ‹l[i]? = some _› (by unfold isRoutingAt; grind) hp.1)
      | exact ⟨i + 1, ⟨get_lt ‹l[i]? = some _›, AllB_succ ‹l[i]? = some _› hall (by unfold isRoutingAt; grind)⟩, (by show l.length - (i + 1) < l.length - i; omega), rfl⟩
      | exact bB ⟨fun h => ⟨allP_of hall (by omega), by rw [leB_iff] at h; omega⟩, fun h => by rw [leB_iff]; have := h.2; omega⟩


theorem c_spec_AreRoutings (l : List RoutingV) (hl : okL RoutingV.ok l) : Contract Try.prog 43 [.d (lD RoutingV.dat l)] (.one (.d (bD (tr (areRoutingsP l))))) := by
  refine contract_by hma hTa Try.func43 (by kernel_rfl) (by kernel_rfl) ?_
  obtain ⟨hlen, hok⟩ := hl
  conv => whnf
  have e1 : (List.map RoutingV.dat l).length = l.length := List.length_map _
  refine LoopK_intro hma hTa [(0, .pl), (2, .pl), (3, .pl)] (fun i : Nat => ⟨[(0, .d (lD RoutingV.dat l)), (2, .d (bD false)), (3, .d (iD i))], [], []⟩) (fun i => i ≤ l.length ∧ AllB l (isRoutingAt l) i) (fun i => l.length - i) (by kernel_rfl) ?_ ?_
  · conv => whnf
    exact ⟨0, ⟨by omega, AllB_zero⟩, rfl⟩
  · intro i ⟨hi, hall⟩
    conv => whnf
    repeat' first
      | (refine brLt (fun h => ?_) (fun h => ?_) <;> conv => whnf)
      | (refine brLe (fun h => ?_) (fun h => ?_) <;> conv => whnf)
      | (refine brEq (fun h => ?_) (fun h => ?_) <;> conv => whnf)
      | (refine brTr (fun h => ?_) (fun h => ?_) <;> conv => whnf)
      | (refine brNTr (fun h => ?_) (fun h => ?_) <;> conv => whnf)
      | (refine brNLt (fun h => ?_) (fun h => ?_) <;> conv => whnf)
      | (refine brNLe (fun h => ?_) (fun h => ?_) <;> conv => whnf)
      | (refine brNEq (fun h => ?_) (fun h => ?_) <;> conv => whnf)
      | (refine brStr (fun h => ?_) (fun h => ?_) <;> conv => whnf)
      | (refine brNStr (fun h => ?_) (fun h => ?_) <;> conv => whnf)
      | (refine brStrLt (fun h => ?_) (fun h => ?_) <;> conv => whnf)
      | (refine brNStrLt (fun h => ?_) (fun h => ?_) <;> conv => whnf)
      | (refine brNBEq (fun h => ?_) (fun h => ?_) <;> conv => whnf)
      | (refine brBEq (fun h => ?_) (fun h => ?_) <;> conv => whnf)
      | (refine CallK_intro (c_spec_IsRouting _ (hok _ (get_mem ‹_›))) ?_; conv => whnf)
      | (refine WrK_i64 (by omega) (by omega) ?_; conv => whnf)
      | (refine takeK_full (by first | exact rfl | exact (List.length_map _).symm | exact List.length_map _ | omega) ?_; conv => whnf)
      | (refine StrK_intro _ rfl (by assumption) ?_; conv => whnf)
      | (refine IxK_map _ rfl (by assumption) ?_; conv => whnf)
      | (refine StrK_lt _ rfl (by omega) (fun b hb => ?_); conv => whnf)
      | (refine IxK_mapLt _ rfl (by (try simp only [List.length_map] at *); omega) (fun x hx => ?_); conv => whnf)
      | (refine IxK_mapI (by omega) (by (try simp only [List.length_map] at *); omega) (fun j x hj hx => ?_); conv => whnf)
      | (refine NeedK_intro (by omega) ?_; conv => whnf)
    all_goals first
      | exact bF (fun hp => allP_not ‹l[i]? = some _› (by unfold isRoutingAt; grind) hp.1)
      | exact ⟨i + 1, ⟨get_lt ‹l[i]? = some _›, AllB_succ ‹l[i]? = some _› hall (by unfold isRoutingAt; grind)⟩, (by show l.length - (i + 1) < l.length - i; omega), rfl⟩
      | exact bB ⟨fun h => ⟨allP_of hall (by omega), by rw [leB_iff] at h; omega⟩, fun h => by rw [leB_iff]; have := h.2; omega⟩


noncomputable def demTo (item : ByteArray) (day : Int) (x : DemandV) : Int := ifP (x.item = item ∧ x.day ≤ day) x.quantity 0
noncomputable def demandUpToN (l : List DemandV) (item : ByteArray) (day : Int) : Int := ifP (areDemandsP l) (sumI (demTo item day) l) 0
theorem demands_bound {l : List DemandV} (h : areDemandsP l) (item : ByteArray) (day : Int) (i : Nat) : 0 ≤ sumI (demTo item day) (l.take i) ∧ sumI (demTo item day) (l.take i) ≤ 1600000 := by
  have hb := sumI_bound_take (f := demTo item day) (b := 100000) (l := l) (fun x hx => by
    obtain ⟨j, hj⟩ := List.getElem?_of_mem hx
    have := (h.1 j x hj).2.2.1
    unfold demTo
    by_cases hc : x.item = item ∧ x.day ≤ day
    · rw [ifP_t hc]; omega
    · rw [ifP_f hc]; omega) i
  have : (l.take i).length ≤ l.length := by simp; omega
  have := h.2
  omega


theorem c_impl_DemandUpTo (l : List DemandV) (hl : okL DemandV.ok l) (item : ByteArray) (day : Int) : Contract Try.prog 30 [.d (lD DemandV.dat l), .d (sD item), .d (iD day)] (.one (.d (iD (demandUpToN l item day)))) := by
  refine contract_by hma hTa Try.func30 (by kernel_rfl) (by kernel_rfl) ?_
  unfold demandUpToN
  conv => whnf
  repeat' first
    | (refine brLt (fun h => ?_) (fun h => ?_) <;> conv => whnf)
    | (refine brLe (fun h => ?_) (fun h => ?_) <;> conv => whnf)
    | (refine brEq (fun h => ?_) (fun h => ?_) <;> conv => whnf)
    | (refine brTr (fun h => ?_) (fun h => ?_) <;> conv => whnf)
    | (refine brNTr (fun h => ?_) (fun h => ?_) <;> conv => whnf)
    | (refine brNLt (fun h => ?_) (fun h => ?_) <;> conv => whnf)
    | (refine brNLe (fun h => ?_) (fun h => ?_) <;> conv => whnf)
    | (refine brNEq (fun h => ?_) (fun h => ?_) <;> conv => whnf)
    | (refine brStr (fun h => ?_) (fun h => ?_) <;> conv => whnf)
    | (refine brNStr (fun h => ?_) (fun h => ?_) <;> conv => whnf)
    | (refine brStrLt (fun h => ?_) (fun h => ?_) <;> conv => whnf)
    | (refine brNStrLt (fun h => ?_) (fun h => ?_) <;> conv => whnf)
    | (refine brNBEq (fun h => ?_) (fun h => ?_) <;> conv => whnf)
    | (refine brBEq (fun h => ?_) (fun h => ?_) <;> conv => whnf)
    | (refine CallK_intro (c_impl_AreDemands _ (by assumption)) ?_; conv => whnf)
    | (refine WrK_i64 (by omega) (by omega) ?_; conv => whnf)
    | (refine takeK_full (by first | exact rfl | exact (List.length_map _).symm | exact List.length_map _ | omega) ?_; conv => whnf)
    | (refine StrK_intro _ rfl (by assumption) ?_; conv => whnf)
    | (refine IxK_map _ rfl (by assumption) ?_; conv => whnf)
    | (refine StrK_lt _ rfl (by omega) (fun b hb => ?_); conv => whnf)
    | (refine IxK_mapLt _ rfl (by (try simp only [List.length_map] at *); omega) (fun x hx => ?_); conv => whnf)
    | (refine IxK_mapI (by omega) (by (try simp only [List.length_map] at *); omega) (fun j x hj hx => ?_); conv => whnf)
    | (refine NeedK_intro (by omega) ?_; conv => whnf)
  all_goals first | exact iF (by assumption) rfl | skip
  have ha : areDemandsP l := by assumption
  obtain ⟨hlen, hok⟩ := hl
  have e1 : (List.map DemandV.dat l).length = l.length := List.length_map _
  refine LoopK_intro hma hTa [(0, .pl), (1, .pl), (2, .pl), (6, .pl), (7, .pl), (13, .pl), (14, .pl), (15, .pl)] (fun i : Nat => ⟨[(0, .d (lD DemandV.dat l)), (1, .d (sD item)), (2, .d (iD day)), (6, .d (iD 0)), (7, .d (iD (sumI (demTo item day) (l.take i)))), (13, .d (lD DemandV.dat l)), (14, .d (iD (l.map DemandV.dat).length)), (15, .d (iD i))], [], []⟩) (fun i => i ≤ l.length) (fun i => l.length - i) (by kernel_rfl) ?_ ?_
  · conv => whnf
    exact ⟨0, by omega, rfl⟩
  · intro i hi
    conv => whnf
    have hb := demands_bound ha item day i
    have hb2 := demands_bound ha item day (i + 1)
    skip
    repeat' first
      | (refine brLt (fun h => ?_) (fun h => ?_) <;> conv => whnf)
      | (refine brLe (fun h => ?_) (fun h => ?_) <;> conv => whnf)
      | (refine brStr (fun h => ?_) (fun h => ?_) <;> conv => whnf)
      | (refine IxK_map _ rfl (by assumption) ?_; conv => whnf)
      | (refine IxK_mapLt _ rfl (by omega) (fun x hx => ?_); (conv => whnf); have hs := sumI_take (f := demTo item day) hx; have hd := (ha.1 i x hx).2.2.1)
      | (refine WrK_i64 (by omega) (by omega) ?_; conv => whnf)
    all_goals first
      | exact ⟨i + 1, get_lt ‹l[i]? = some _›, (by have := get_lt ‹l[i]? = some _›; show l.length - (i + 1) < l.length - i; omega), by dsimp only; rw [hs, demTo, ifP_t ⟨by assumption, by assumption⟩]; rfl⟩
      | exact ⟨i + 1, get_lt ‹l[i]? = some _›, (by have := get_lt ‹l[i]? = some _›; show l.length - (i + 1) < l.length - i; omega), by dsimp only; rw [hs, demTo, ifP_f (by grind), Int.add_zero]; rfl⟩
      | exact iT ha (by rw [List.take_of_length_le (by omega)])

theorem c_spec_DemandUpTo (l : List DemandV) (hl : okL DemandV.ok l) (item : ByteArray) (day : Int) : Contract Try.prog 28 [.d (lD DemandV.dat l), .d (sD item), .d (iD day)] (.one (.d (iD (demandUpToN l item day)))) := by
  refine contract_by hma hTa Try.func28 (by kernel_rfl) (by kernel_rfl) ?_
  unfold demandUpToN
  conv => whnf
  have hl2 := hl
  obtain ⟨hlen, hok⟩ := hl2
  have e1 : (List.map DemandV.dat l).length = l.length := List.length_map _
  refine LoopK_intro hma hTa [(0, .pl), (1, .pl), (2, .pl), (6, .pl), (7, .pl), (8, .pl)] (fun i : Nat => ⟨[(0, .d (lD DemandV.dat l)), (1, .d (sD item)), (2, .d (iD day)), (6, .d (iD 0)), (7, .d (iD (sumI (demTo item day) (l.take i)))), (8, .d (iD i))], [], []⟩) (fun i => i ≤ l.length ∧ (0 < i → areDemandsP l)) (fun i => l.length - i) (by kernel_rfl) ?_ ?_
  · conv => whnf
    exact ⟨0, ⟨by omega, by omega⟩, rfl⟩
  · intro i ⟨hi, h0⟩
    conv => whnf
    refine brLt (fun h => ?_) (fun h => ?_) <;> conv => whnf
    · refine CallK_tr (c_spec_AreDemands _ hl) (fun ha => ?_) (fun ha => ?_) <;> conv => whnf
      · have hb := demands_bound ha item day i
        have hb2 := demands_bound ha item day (i + 1)
        skip
        repeat' first
          | (refine brLt (fun h => ?_) (fun h => ?_) <;> conv => whnf)
          | (refine brLe (fun h => ?_) (fun h => ?_) <;> conv => whnf)
          | (refine brStr (fun h => ?_) (fun h => ?_) <;> conv => whnf)
          | (refine IxK_map _ rfl (by assumption) ?_; conv => whnf)
          | (refine IxK_mapLt _ rfl (by omega) (fun x hx => ?_); (conv => whnf); have hs := sumI_take (f := demTo item day) hx; have hd := (ha.1 i x hx).2.2.1)
          | (refine WrK_i64 (by omega) (by omega) ?_; conv => whnf)
        all_goals first
          | exact ⟨i + 1, ⟨get_lt ‹l[i]? = some _›, fun _ => ha⟩, (by have := get_lt ‹l[i]? = some _›; show l.length - (i + 1) < l.length - i; omega), by dsimp only; rw [hs, demTo, ifP_t ⟨by assumption, by assumption⟩]; rfl⟩
          | exact ⟨i + 1, ⟨get_lt ‹l[i]? = some _›, fun _ => ha⟩, (by have := get_lt ‹l[i]? = some _›; show l.length - (i + 1) < l.length - i; omega), by dsimp only; rw [hs, demTo, ifP_f (by grind), Int.add_zero]; rfl⟩
      · have e0 : i = 0 := by
          rcases Nat.eq_zero_or_pos i with e | e
          · exact e
          · exact absurd (h0 e) ha
        subst e0
        exact iF ha rfl
    · by_cases e0 : 0 < i
      · exact iT (h0 e0) (by rw [List.take_of_length_le (by omega)])
      · have : l = [] := List.eq_nil_of_length_eq_zero (by omega)
        subst this
        have : areDemandsP [] := ⟨fun j x h => by simp at h, by simp⟩
        exact iT this (by simp [sumI])

theorem stepTime_bound (x : StepV) (q : Int) : 0 ≤ stepTimeN x q ∧ stepTimeN x q ≤ 100001000 := by
  unfold stepTimeN
  by_cases hc : isStepP x ∧ inP q 1 100000
  · rw [ifP_t hc]
    obtain ⟨h1, h2⟩ := hc
    have hb := mul_bound (a := x.run) (b := q) (A := 1000) (B := 100000) h1.2.2.1 h1.2.2.2 (by have := h2.1; omega) h2.2
    have hs := h1.2.1
    omega
  · rw [ifP_f hc]; omega
noncomputable def routingTimeN (r : RoutingV) (q : Int) : Int := ifP (isRoutingP r ∧ inP q 1 100000) (sumI (fun x => stepTimeN x q) r.steps) 0
theorem routing_bound {r : RoutingV} (h : isRoutingP r) (q : Int) (i : Nat) : 0 ≤ sumI (fun x => stepTimeN x q) (r.steps.take i) ∧ sumI (fun x => stepTimeN x q) (r.steps.take i) ≤ 600006000 := by
  have hb := sumI_bound_take (f := fun x => stepTimeN x q) (b := 100001000) (l := r.steps) (fun x _ => stepTime_bound x q) i
  have : (r.steps.take i).length ≤ r.steps.length := by simp; omega
  have := h.2.2
  omega


theorem c_impl_RoutingTime (r : RoutingV) (hr : r.ok) (q : Int) (hq : okI q) : Contract Try.prog 17 [.d r.dat, .d (iD q)] (.tup (.d (iD (routingTimeN r q))) [bD (tr (isRoutingP r ∧ inP q 1 100000))]) := by
  refine contract_by hma hTa Try.func17 (by kernel_rfl) (by kernel_rfl) ?_
  unfold routingTimeN
  conv => whnf
  repeat' first
    | (refine brLt (fun h => ?_) (fun h => ?_) <;> conv => whnf)
    | (refine brLe (fun h => ?_) (fun h => ?_) <;> conv => whnf)
    | (refine brEq (fun h => ?_) (fun h => ?_) <;> conv => whnf)
    | (refine brTr (fun h => ?_) (fun h => ?_) <;> conv => whnf)
    | (refine brNTr (fun h => ?_) (fun h => ?_) <;> conv => whnf)
    | (refine brNLt (fun h => ?_) (fun h => ?_) <;> conv => whnf)
    | (refine brNLe (fun h => ?_) (fun h => ?_) <;> conv => whnf)
    | (refine brNEq (fun h => ?_) (fun h => ?_) <;> conv => whnf)
    | (refine brStr (fun h => ?_) (fun h => ?_) <;> conv => whnf)
    | (refine brNStr (fun h => ?_) (fun h => ?_) <;> conv => whnf)
    | (refine brStrLt (fun h => ?_) (fun h => ?_) <;> conv => whnf)
    | (refine brNStrLt (fun h => ?_) (fun h => ?_) <;> conv => whnf)
    | (refine brNBEq (fun h => ?_) (fun h => ?_) <;> conv => whnf)
    | (refine brBEq (fun h => ?_) (fun h => ?_) <;> conv => whnf)
    | (refine CallK_intro (c_impl_IsRouting _ (by assumption)) ?_; conv => whnf)
    | (refine CallK_intro (c_impl_in _ _ _) ?_; conv => whnf)
    | (refine WrK_i64 (by omega) (by omega) ?_; conv => whnf)
    | (refine takeK_full (by first | exact rfl | exact (List.length_map _).symm | exact List.length_map _ | omega) ?_; conv => whnf)
    | (refine StrK_intro _ rfl (by assumption) ?_; conv => whnf)
    | (refine IxK_map _ rfl (by assumption) ?_; conv => whnf)
    | (refine StrK_lt _ rfl (by omega) (fun b hb => ?_); conv => whnf)
    | (refine IxK_mapLt _ rfl (by (try simp only [List.length_map] at *); omega) (fun x hx => ?_); conv => whnf)
    | (refine IxK_mapI (by omega) (by (try simp only [List.length_map] at *); omega) (fun j x hj hx => ?_); conv => whnf)
    | (refine NeedK_intro (by omega) ?_; conv => whnf)
  all_goals first | exact ⟨iF (by grind) rfl, bF (by grind), trivial⟩ | skip
  have ha : isRoutingP r := by assumption
  have hq2 : inP q 1 100000 := by assumption
  obtain ⟨k0, hlen, hok⟩ := hr
  have e1 : (List.map StepV.dat r.steps).length = r.steps.length := List.length_map _
  refine LoopK_intro hma hTa [(1, .pl), (2, .key 2), (4, .pl), (5, .pl), (6, .pl), (20, .pl), (21, .pl), (22, .pl)] (fun i : Nat => ⟨[(1, .d (iD q)), (2, .ae 2 0), (4, .d (iD 0)), (5, .d (bD false)), (6, .d (iD (sumI (fun x => stepTimeN x q) (r.steps.take i)))), (20, .d (lD StepV.dat r.steps)), (21, .d (iD (r.steps.map StepV.dat).length)), (22, .d (iD i))], [(2, some ⟨26, 2, [r.dat]⟩)], []⟩) (fun i => i ≤ r.steps.length) (fun i => r.steps.length - i) (by kernel_rfl) ?_ ?_
  · conv => whnf
    exact ⟨0, by omega, rfl⟩
  · intro i hi
    conv => whnf
    have hb := routing_bound ha q i
    repeat' first
      | (refine brLt (fun h => ?_) (fun h => ?_) <;> conv => whnf)
      | (refine IxK_mapLt _ rfl (by omega) (fun x hx => ?_); (conv => whnf); have hs := sumI_take (f := fun x => stepTimeN x q) hx; have hd := stepTime_bound x q)
      | (refine CallK_intro (c_impl_StepTime _ (hok _ (get_mem ‹_›)) _ hq) ?_; conv => whnf)
      | (refine WrK_i64 (by omega) (by omega) ?_; conv => whnf)
    all_goals first
      | exact ⟨i + 1, get_lt ‹r.steps[i]? = some _›, (by have := get_lt ‹r.steps[i]? = some _›; show r.steps.length - (i + 1) < r.steps.length - i; omega), by dsimp only; rw [hs]; rfl⟩
      | exact ⟨iT ⟨ha, hq2⟩ (by rw [List.take_of_length_le (by omega)]), bT ⟨ha, hq2⟩, trivial⟩


theorem c_spec_RoutingTime (r : RoutingV) (hr : r.ok) (q : Int) (hq : okI q) : Contract Try.prog 40 [.d r.dat, .d (iD q)] (.tup (.d (iD (routingTimeN r q))) [bD (tr (isRoutingP r ∧ inP q 1 100000))]) := by
  refine contract_by hma hTa Try.func40 (by kernel_rfl) (by kernel_rfl) ?_
  unfold routingTimeN
  conv => whnf
  repeat' first
    | (refine brLt (fun h => ?_) (fun h => ?_) <;> conv => whnf)
    | (refine brLe (fun h => ?_) (fun h => ?_) <;> conv => whnf)
    | (refine brEq (fun h => ?_) (fun h => ?_) <;> conv => whnf)
    | (refine brTr (fun h => ?_) (fun h => ?_) <;> conv => whnf)
    | (refine brNTr (fun h => ?_) (fun h => ?_) <;> conv => whnf)
    | (refine brNLt (fun h => ?_) (fun h => ?_) <;> conv => whnf)
    | (refine brNLe (fun h => ?_) (fun h => ?_) <;> conv => whnf)
    | (refine brNEq (fun h => ?_) (fun h => ?_) <;> conv => whnf)
    | (refine brStr (fun h => ?_) (fun h => ?_) <;> conv => whnf)
    | (refine brNStr (fun h => ?_) (fun h => ?_) <;> conv => whnf)
    | (refine brStrLt (fun h => ?_) (fun h => ?_) <;> conv => whnf)
    | (refine brNStrLt (fun h => ?_) (fun h => ?_) <;> conv => whnf)
    | (refine brNBEq (fun h => ?_) (fun h => ?_) <;> conv => whnf)
    | (refine brBEq (fun h => ?_) (fun h => ?_) <;> conv => whnf)
    | (refine CallK_intro (c_spec_IsRouting _ (by assumption)) ?_; conv => whnf)
    | (refine CallK_intro (c_spec_l1In _ _ _) ?_; conv => whnf)
    | (refine WrK_i64 (by omega) (by omega) ?_; conv => whnf)
    | (refine takeK_full (by first | exact rfl | exact (List.length_map _).symm | exact List.length_map _ | omega) ?_; conv => whnf)
    | (refine StrK_intro _ rfl (by assumption) ?_; conv => whnf)
    | (refine IxK_map _ rfl (by assumption) ?_; conv => whnf)
    | (refine StrK_lt _ rfl (by omega) (fun b hb => ?_); conv => whnf)
    | (refine IxK_mapLt _ rfl (by (try simp only [List.length_map] at *); omega) (fun x hx => ?_); conv => whnf)
    | (refine IxK_mapI (by omega) (by (try simp only [List.length_map] at *); omega) (fun j x hj hx => ?_); conv => whnf)
    | (refine NeedK_intro (by omega) ?_; conv => whnf)
  all_goals first | exact ⟨iF (by grind) rfl, bF (by grind), trivial⟩ | skip
  have ha : isRoutingP r := by assumption
  have hq2 : inP q 1 100000 := by assumption
  obtain ⟨k0, hlen, hok⟩ := hr
  have e1 : (List.map StepV.dat r.steps).length = r.steps.length := List.length_map _
  refine LoopK_intro hma hTa [(1, .pl), (2, .key 2), (4, .pl), (5, .pl), (6, .pl), (7, .pl)] (fun i : Nat => ⟨[(1, .d (iD q)), (2, .ae 2 0), (4, .d (iD 0)), (5, .d (bD false)), (6, .d (iD (sumI (fun x => stepTimeN x q) (r.steps.take i)))), (7, .d (iD i))], [(2, some ⟨26, 2, [r.dat]⟩)], []⟩) (fun i => i ≤ r.steps.length) (fun i => r.steps.length - i) (by kernel_rfl) ?_ ?_
  · conv => whnf
    exact ⟨0, by omega, rfl⟩
  · intro i hi
    conv => whnf
    have hb := routing_bound ha q i
    repeat' first
      | (refine brLt (fun h => ?_) (fun h => ?_) <;> conv => whnf)
      | (refine IxK_mapLt _ rfl (by omega) (fun x hx => ?_); (conv => whnf); have hs := sumI_take (f := fun x => stepTimeN x q) hx; have hd := stepTime_bound x q)
      | (refine CallK_intro (c_spec_StepTime _ (hok _ (get_mem ‹_›)) _ hq) ?_; conv => whnf)
      | (refine WrK_i64 (by omega) (by omega) ?_; conv => whnf)
    all_goals first
      | exact ⟨i + 1, get_lt ‹r.steps[i]? = some _›, (by have := get_lt ‹r.steps[i]? = some _›; show r.steps.length - (i + 1) < r.steps.length - i; omega), by dsimp only; rw [hs]; rfl⟩
      | exact ⟨iT ⟨ha, hq2⟩ (by rw [List.take_of_length_le (by omega)]), bT ⟨ha, hq2⟩, trivial⟩


end Go.DL
