/- Contracts of functions of the program, at this seat: what each call returns, by its arguments as data; each states its own conditions. -/
import Derived.Test.YtfobnelkahdbmaaT
namespace Go.DL
set_option maxRecDepth 100000
set_option maxHeartbeats 2000000
open Go.RowKit Go.Proofs Go.Proofs.Ytfobnelkahdbmaa

theorem c_laws_szStep (x : StepV) (left : Int) (h0 : 0 ≤ left) (h1 : left ≤ 1048576) (hx : x.ok) : Contract Try.prog 15 [.d x.dat, .d (iD left)] (.one (.d (iD (szR left x.wt)))) := by
  refine contract_by hma hTa Try.func15 (by kernel_rfl) (by kernel_rfl) ?_
  obtain ⟨k0, k1, k2⟩ := hx
  unfold okS at k0
  generalize hres : szR left x.wt = res
  conv => whnf
  repeat' first
    | (refine brLt (fun h => ?_) (fun h => ?_) <;> conv => whnf)
    | (refine WrK_i64 (by omega) (by omega) ?_; conv => whnf)
  all_goals
    rw [← hres]
    first
    | exact congrArg iD (by rw [szR_lt (by unfold StepV.wt; omega)])
    | exact congrArg iD (by rw [szR_ge (by unfold StepV.wt; omega)]; unfold StepV.wt; omega)


theorem c_laws_toStep (x : StepV) (hx : x.ok) : Contract Try.prog 17 [.d x.dat] (.one (.d x.dat)) := by
  refine contract_by hma hTa Try.func17 (by kernel_rfl) (by kernel_rfl) ?_
  obtain ⟨k0, k1, k2⟩ := hx
  conv => whnf
  exact rfl


theorem c_laws_eqStep (x y : StepV) (hx : x.ok) (hy : y.ok) : Contract Try.prog 75 [.d x.dat, .d y.dat] (.one (.d (bD (tr (x = y))))) := by
  refine contract_by hma hTa Try.func75 (by kernel_rfl) (by kernel_rfl) ?_
  obtain ⟨k0, k1, k2⟩ := hx
  obtain ⟨m0, m1, m2⟩ := hy
  conv => whnf
  repeat' first
    | (refine brLt (fun h => ?_) (fun h => ?_) <;> conv => whnf)
    | (refine brLe (fun h => ?_) (fun h => ?_) <;> conv => whnf)
    | (refine brEq (fun h => ?_) (fun h => ?_) <;> conv => whnf)
    | (refine brTr (fun h => ?_) (fun h => ?_) <;> conv => whnf)
    | (refine brNTr (fun h => ?_) (fun h => ?_) <;> conv => whnf)
    | (refine brNLt (fun h => ?_) (fun h => ?_) <;> conv => whnf)
    | (refine brNLe (fun h => ?_) (fun h => ?_) <;> conv => whnf)
    | (refine brNEq (fun h => ?_) (fun h => ?_) <;> conv => whnf)
    | (refine brStr (fun h => ?_) (fun h => ?_) <;> conv => whnf)
    | (refine brNStr (fun h => ?_) (fun h => ?_) <;> conv => whnf)
    | (refine brStrLt (fun h => ?_) (fun h => ?_) <;> conv => whnf)
    | (refine brNStrLt (fun h => ?_) (fun h => ?_) <;> conv => whnf)
    | (refine brNBEq (fun h => ?_) (fun h => ?_) <;> conv => whnf)
    | (refine brBEq (fun h => ?_) (fun h => ?_) <;> conv => whnf)
    | (refine WrK_i64 (by omega) (by omega) ?_; conv => whnf)
    | (refine takeK_full (by simp) ?_; conv => whnf)
    | (refine StrK_intro _ rfl (by assumption) ?_; conv => whnf)
    | (refine IxK_map _ rfl (by assumption) ?_; conv => whnf)
    | (refine StrK_lt _ rfl (by omega) (fun b hb => ?_); conv => whnf)
    | (refine IxK_mapLt _ rfl (by (try simp only [List.length_map] at *); omega) (fun x hx => ?_); conv => whnf)
    | (refine IxK_mapI (by omega) (by (try simp only [List.length_map] at *); omega) (fun j x hj hx => ?_); conv => whnf)
    | (refine NeedK_intro (by omega) ?_; conv => whnf)
  all_goals first
    | exact bF (fun hp => by subst hp; simp_all)
    | exact bT (by cases x; cases y; simp_all)


set_option maxHeartbeats 400000 in
theorem c_laws_szStepS (l : List StepV) (left : Int) (h0 : 0 ≤ left) (h1 : left ≤ 1048576) (hl : okL StepV.ok l) : Contract Try.prog 71 [.d (lD StepV.dat l), .d (iD left)] (.one (.d (iD (szR left (wtL StepV.wt l))))) := by
  refine contract_by hma hTa Try.func71 (by kernel_rfl) (by kernel_rfl) ?_
  obtain ⟨hlen, hok⟩ := hl
  have hw : wtL StepV.wt l = l.length + sumW StepV.wt l := rfl
  rw [hw]
  conv => whnf
  have e1 : (List.map StepV.dat l).length = l.length := List.length_map _
  repeat' first
    | (refine brLt (fun h => ?_) (fun h => ?_) <;> conv => whnf)
    | (refine brLe (fun h => ?_) (fun h => ?_) <;> conv => whnf)
    | (refine brEq (fun h => ?_) (fun h => ?_) <;> conv => whnf)
    | (refine brTr (fun h => ?_) (fun h => ?_) <;> conv => whnf)
    | (refine brNTr (fun h => ?_) (fun h => ?_) <;> conv => whnf)
    | (refine brNLt (fun h => ?_) (fun h => ?_) <;> conv => whnf)
    | (refine brNLe (fun h => ?_) (fun h => ?_) <;> conv => whnf)
    | (refine brNEq (fun h => ?_) (fun h => ?_) <;> conv => whnf)
    | (refine brStr (fun h => ?_) (fun h => ?_) <;> conv => whnf)
    | (refine brNStr (fun h => ?_) (fun h => ?_) <;> conv => whnf)
    | (refine brStrLt (fun h => ?_) (fun h => ?_) <;> conv => whnf)
    | (refine brNStrLt (fun h => ?_) (fun h => ?_) <;> conv => whnf)
    | (refine brNBEq (fun h => ?_) (fun h => ?_) <;> conv => whnf)
    | (refine brBEq (fun h => ?_) (fun h => ?_) <;> conv => whnf)
    | (refine WrK_i64 (by omega) (by omega) ?_; conv => whnf)
    | (refine takeK_full (by simp) ?_; conv => whnf)
    | (refine StrK_intro _ rfl (by assumption) ?_; conv => whnf)
    | (refine IxK_map _ rfl (by assumption) ?_; conv => whnf)
    | (refine StrK_lt _ rfl (by omega) (fun b hb => ?_); conv => whnf)
    | (refine IxK_mapLt _ rfl (by (try simp only [List.length_map] at *); omega) (fun x hx => ?_); conv => whnf)
    | (refine IxK_mapI (by omega) (by (try simp only [List.length_map] at *); omega) (fun j x hj hx => ?_); conv => whnf)
    | (refine NeedK_intro (by omega) ?_; conv => whnf)
  · exact congrArg iD (by rw [szR_lt (by omega)])
  · refine LoopK_intro hma hTa [(0, .pl), (1, .pl), (4, .pl), (5, .pl)] (fun i : Nat => ⟨[(0, .d (lD StepV.dat l)), (1, .d (iD (left - l.length - sumW StepV.wt (l.take i)))), (4, .d (iD 0)), (5, .d (iD i))], [], []⟩) (fun i => i ≤ l.length ∧ (sumW StepV.wt (l.take i) : Int) ≤ left - l.length) (fun i => l.length - i) (by kernel_rfl) ?_ ?_
    · conv => whnf
      exact ⟨0, ⟨by omega, by simp [sumW]; omega⟩, by simp [sumW, e1]⟩
    · intro i ⟨hi, hs⟩
      conv => whnf
      repeat' first
        | (refine brLt (fun h => ?_) (fun h => ?_) <;> conv => whnf)
        | (refine WrK_i64 (by omega) (by omega) ?_; conv => whnf)
        | (refine IxK_mapLt _ rfl (by omega) (fun x hx => ?_); (conv => whnf); have hx1 := sumW_take (f := StepV.wt) hx; have hx2 := sumW_take_le StepV.wt l (i + 1); have hx3 := get_lt hx; have hx4 := hok _ (get_mem hx))
        | (refine CallK_sz (c_laws_szStep _ _ (by omega) (by omega) (hok _ (get_mem ‹_›))) (fun hc => ?_) (fun hc => ?_) <;> conv => whnf)
      all_goals first
        | exact ⟨i + 1, ⟨by omega, by omega⟩, (by show l.length - (i + 1) < l.length - i; omega), (by
            have e3 : left - l.length - (sumW StepV.wt (l.take i) : Int) - (StepV.wt x : Nat) = left - l.length - (sumW StepV.wt (l.take (i + 1)) : Int) := by omega
            dsimp only
            rw [← e3]
            rfl)⟩
        | (exfalso; omega)
        | exact congrArg iD (by rw [szR_lt (by omega)])
        | exact congrArg iD (by have e2 : l.take i = l := List.take_of_length_le (by omega); rw [e2] at hs ⊢; rw [szR_ge (by omega)]; omega)


set_option maxHeartbeats 400000 in
theorem c_laws_toStepS (l : List StepV) (hw : wtL StepV.wt l ≤ 1048576) (hok : ∀ v ∈ l, StepV.ok v) : Contract Try.prog 72 [.d (lD StepV.dat l)] (.one (.own ⟨26, 3, l.map StepV.dat⟩)) := by
  have hlen : l.length ≤ 1048576 := Nat.le_trans wtL_len hw
  refine contract_by hma hTa Try.func72 (by kernel_rfl) (by kernel_rfl) ?_
  conv => whnf
  have e1 : (List.map StepV.dat l).length = l.length := List.length_map _
  refine MkK_intro l.length (by omega) (by omega) (by omega) ?_
  conv => whnf
  refine LoopK_intro hma hTa [(0, .pl), (2, .pl), (3, .key 7), (4, .pl)] (fun i : Nat => ⟨[(0, .d (lD StepV.dat l)), (2, .nil), (3, .av 7 l.length), (4, .d (iD i))], [(7, some ⟨26, 3, (l.take i).map StepV.dat ++ List.replicate (l.length - i) (StepV.z.dat)⟩)], []⟩) (fun i => i ≤ l.length) (fun i => l.length - i) (by kernel_rfl) ?_ ?_
  · conv => whnf
    exact ⟨0, by omega, rfl⟩
  · intro i hi
    conv => whnf
    refine brLt (fun h => ?_) (fun h => ?_) <;> conv => whnf
    · refine IxK_mapLt _ rfl (by omega) (fun x hx => ?_)
      conv => whnf
      refine CallK_intro (c_laws_toStep _ (hok _ (get_mem ‹_›))) ?_
      conv => whnf
      refine IxA_intro i rfl (by omega) ?_
      conv => whnf
      refine setK_intro (by rw [fill_len _ _ hi]; omega) (fill_step (f := StepV.dat) hx).symm ?_
      conv => whnf
      refine WrK_i64 (by omega) (by omega) ?_
      conv => whnf
      exact ⟨i + 1, get_lt hx, (by show l.length - (i + 1) < l.length - i; omega), rfl⟩
    · have e2 : i = l.length := by omega
      subst e2
      rw [fill_end]
      exact ⟨rfl, rfl, e1.symm, rfl⟩


set_option maxHeartbeats 400000 in
theorem c_laws_eqStepS (l m : List StepV) (hl : okL StepV.ok l) (hm : okL StepV.ok m) : Contract Try.prog 73 [.d (lD StepV.dat l), .d (lD StepV.dat m)] (.one (.d (bD (tr (l = m))))) := by
  refine contract_by hma hTa Try.func73 (by kernel_rfl) (by kernel_rfl) ?_
  obtain ⟨hlen, hok⟩ := hl
  obtain ⟨hlen2, hok2⟩ := hm
  conv => whnf
  have e1 : (List.map StepV.dat l).length = l.length := List.length_map _
  have e2 : (List.map StepV.dat m).length = m.length := List.length_map _
  refine brNEq (fun h => ?_) (fun h => ?_)
  rotate_left
  · conv => whnf
    exact bF (fun hp => by subst hp; omega)
  · conv => whnf
    refine LoopK_intro hma hTa [(0, .pl), (1, .pl), (4, .pl), (5, .pl)] (fun i : Nat => ⟨[(0, .d (lD StepV.dat l)), (1, .d (lD StepV.dat m)), (4, .d (bD false)), (5, .d (iD i))], [], []⟩) (fun i => i ≤ l.length ∧ l.take i = m.take i) (fun i => l.length - i) (by kernel_rfl) ?_ ?_
    · conv => whnf
      exact ⟨0, ⟨by omega, by simp⟩, rfl⟩
    · intro i ⟨hi, hs⟩
      conv => whnf
      repeat' first
        | (refine brLt (fun h => ?_) (fun h => ?_) <;> conv => whnf)
        | (refine brNTr (fun h => ?_) (fun h => ?_) <;> conv => whnf)
        | (refine brNEq (fun h => ?_) (fun h => ?_) <;> conv => whnf)
        | (refine brNStr (fun h => ?_) (fun h => ?_) <;> conv => whnf)
        | (refine WrK_i64 (by omega) (by omega) ?_; conv => whnf)
        | (refine IxK_mapLt _ rfl (by omega) (fun x hx => ?_); conv => whnf)
        | (refine CallK_intro (c_laws_eqStep _ _ (hok _ (get_mem ‹_›)) (hok2 _ (get_mem ‹_›))) ?_; conv => whnf)
      all_goals first
        | exact bT (by rwa [List.take_of_length_le (by omega), List.take_of_length_le (by omega)] at hs)
        | exact bF (fun hp => by subst hp; simp_all)
        | exact ⟨i + 1, ⟨by omega, by rw [take_snoc ‹l[i]? = some _›, take_snoc ‹m[i]? = some _›, hs]; simp_all⟩, (by show l.length - (i + 1) < l.length - i; omega), rfl⟩


theorem c_laws_toFlow (x : FlowV) (hx : x.ok) : Contract Try.prog 62 [.d x.dat] (.one (.d x.dat)) := by
  refine contract_by hma hTa Try.func62 (by kernel_rfl) (by kernel_rfl) ?_
  obtain ⟨k0, k1⟩ := hx
  conv => whnf
  exact rfl


theorem c_laws_eqFlow (x y : FlowV) (hx : x.ok) (hy : y.ok) : Contract Try.prog 63 [.d x.dat, .d y.dat] (.one (.d (bD (tr (x = y))))) := by
  refine contract_by hma hTa Try.func63 (by kernel_rfl) (by kernel_rfl) ?_
  obtain ⟨k0, k1⟩ := hx
  obtain ⟨m0, m1⟩ := hy
  conv => whnf
  repeat' first
    | (refine brLt (fun h => ?_) (fun h => ?_) <;> conv => whnf)
    | (refine brLe (fun h => ?_) (fun h => ?_) <;> conv => whnf)
    | (refine brEq (fun h => ?_) (fun h => ?_) <;> conv => whnf)
    | (refine brTr (fun h => ?_) (fun h => ?_) <;> conv => whnf)
    | (refine brNTr (fun h => ?_) (fun h => ?_) <;> conv => whnf)
    | (refine brNLt (fun h => ?_) (fun h => ?_) <;> conv => whnf)
    | (refine brNLe (fun h => ?_) (fun h => ?_) <;> conv => whnf)
    | (refine brNEq (fun h => ?_) (fun h => ?_) <;> conv => whnf)
    | (refine brStr (fun h => ?_) (fun h => ?_) <;> conv => whnf)
    | (refine brNStr (fun h => ?_) (fun h => ?_) <;> conv => whnf)
    | (refine brStrLt (fun h => ?_) (fun h => ?_) <;> conv => whnf)
    | (refine brNStrLt (fun h => ?_) (fun h => ?_) <;> conv => whnf)
    | (refine brNBEq (fun h => ?_) (fun h => ?_) <;> conv => whnf)
    | (refine brBEq (fun h => ?_) (fun h => ?_) <;> conv => whnf)
    | (refine WrK_i64 (by omega) (by omega) ?_; conv => whnf)
    | (refine takeK_full (by simp) ?_; conv => whnf)
    | (refine StrK_intro _ rfl (by assumption) ?_; conv => whnf)
    | (refine IxK_map _ rfl (by assumption) ?_; conv => whnf)
    | (refine StrK_lt _ rfl (by omega) (fun b hb => ?_); conv => whnf)
    | (refine IxK_mapLt _ rfl (by (try simp only [List.length_map] at *); omega) (fun x hx => ?_); conv => whnf)
    | (refine IxK_mapI (by omega) (by (try simp only [List.length_map] at *); omega) (fun j x hj hx => ?_); conv => whnf)
    | (refine NeedK_intro (by omega) ?_; conv => whnf)
  all_goals first
    | exact bF (fun hp => by subst hp; simp_all)
    | exact bT (by cases x; cases y; simp_all)


theorem c_laws_szFlowS (l : List FlowV) (left : Int) (h0 : 0 ≤ left) (h1 : left ≤ 1048576) (hl : okL FlowV.ok l) : Contract Try.prog 21 [.d (lD FlowV.dat l), .d (iD left)] (.one (.d (iD (szR left (wtL FlowV.wt l))))) := by
  refine contract_by hma hTa Try.func21 (by kernel_rfl) (by kernel_rfl) ?_
  obtain ⟨hlen, hok⟩ := hl
  have hw : wtL FlowV.wt l = l.length := by unfold wtL; rw [show sumW FlowV.wt l = 0 from sumW_zero l]; rfl
  rw [hw]
  conv => whnf
  have e1 : (List.map FlowV.dat l).length = l.length := List.length_map _
  repeat' first
    | (refine brLt (fun h => ?_) (fun h => ?_) <;> conv => whnf)
    | (refine brLe (fun h => ?_) (fun h => ?_) <;> conv => whnf)
    | (refine brEq (fun h => ?_) (fun h => ?_) <;> conv => whnf)
    | (refine brTr (fun h => ?_) (fun h => ?_) <;> conv => whnf)
    | (refine brNTr (fun h => ?_) (fun h => ?_) <;> conv => whnf)
    | (refine brNLt (fun h => ?_) (fun h => ?_) <;> conv => whnf)
    | (refine brNLe (fun h => ?_) (fun h => ?_) <;> conv => whnf)
    | (refine brNEq (fun h => ?_) (fun h => ?_) <;> conv => whnf)
    | (refine brStr (fun h => ?_) (fun h => ?_) <;> conv => whnf)
    | (refine brNStr (fun h => ?_) (fun h => ?_) <;> conv => whnf)
    | (refine brStrLt (fun h => ?_) (fun h => ?_) <;> conv => whnf)
    | (refine brNStrLt (fun h => ?_) (fun h => ?_) <;> conv => whnf)
    | (refine brNBEq (fun h => ?_) (fun h => ?_) <;> conv => whnf)
    | (refine brBEq (fun h => ?_) (fun h => ?_) <;> conv => whnf)
    | (refine WrK_i64 (by omega) (by omega) ?_; conv => whnf)
    | (refine takeK_full (by simp) ?_; conv => whnf)
    | (refine StrK_intro _ rfl (by assumption) ?_; conv => whnf)
    | (refine IxK_map _ rfl (by assumption) ?_; conv => whnf)
    | (refine StrK_lt _ rfl (by omega) (fun b hb => ?_); conv => whnf)
    | (refine IxK_mapLt _ rfl (by (try simp only [List.length_map] at *); omega) (fun x hx => ?_); conv => whnf)
    | (refine IxK_mapI (by omega) (by (try simp only [List.length_map] at *); omega) (fun j x hj hx => ?_); conv => whnf)
    | (refine NeedK_intro (by omega) ?_; conv => whnf)
  all_goals first | exact congrArg iD (by rw [szR_lt (by omega)]) | exact congrArg iD (by rw [szR_ge (by omega)]; omega)


set_option maxHeartbeats 400000 in
theorem c_laws_toFlowS (l : List FlowV) (hw : wtL FlowV.wt l ≤ 1048576) (hok : ∀ v ∈ l, FlowV.ok v) : Contract Try.prog 23 [.d (lD FlowV.dat l)] (.one (.own ⟨87, 2, l.map FlowV.dat⟩)) := by
  have hlen : l.length ≤ 1048576 := Nat.le_trans wtL_len hw
  refine contract_by hma hTa Try.func23 (by kernel_rfl) (by kernel_rfl) ?_
  conv => whnf
  have e1 : (List.map FlowV.dat l).length = l.length := List.length_map _
  refine MkK_intro l.length (by omega) (by omega) (by omega) ?_
  conv => whnf
  refine LoopK_intro hma hTa [(0, .pl), (2, .pl), (3, .key 7), (4, .pl)] (fun i : Nat => ⟨[(0, .d (lD FlowV.dat l)), (2, .nil), (3, .av 7 l.length), (4, .d (iD i))], [(7, some ⟨87, 2, (l.take i).map FlowV.dat ++ List.replicate (l.length - i) (FlowV.z.dat)⟩)], []⟩) (fun i => i ≤ l.length) (fun i => l.length - i) (by kernel_rfl) ?_ ?_
  · conv => whnf
    exact ⟨0, by omega, rfl⟩
  · intro i hi
    conv => whnf
    refine brLt (fun h => ?_) (fun h => ?_) <;> conv => whnf
    · refine IxK_mapLt _ rfl (by omega) (fun x hx => ?_)
      conv => whnf
      refine CallK_intro (c_laws_toFlow _ (hok _ (get_mem ‹_›))) ?_
      conv => whnf
      refine IxA_intro i rfl (by omega) ?_
      conv => whnf
      refine setK_intro (by rw [fill_len _ _ hi]; omega) (fill_step (f := FlowV.dat) hx).symm ?_
      conv => whnf
      refine WrK_i64 (by omega) (by omega) ?_
      conv => whnf
      exact ⟨i + 1, get_lt hx, (by show l.length - (i + 1) < l.length - i; omega), rfl⟩
    · have e2 : i = l.length := by omega
      subst e2
      rw [fill_end]
      exact ⟨rfl, rfl, e1.symm, rfl⟩


set_option maxHeartbeats 400000 in
theorem c_laws_eqFlowS (l m : List FlowV) (hl : okL FlowV.ok l) (hm : okL FlowV.ok m) : Contract Try.prog 25 [.d (lD FlowV.dat l), .d (lD FlowV.dat m)] (.one (.d (bD (tr (l = m))))) := by
  refine contract_by hma hTa Try.func25 (by kernel_rfl) (by kernel_rfl) ?_
  obtain ⟨hlen, hok⟩ := hl
  obtain ⟨hlen2, hok2⟩ := hm
  conv => whnf
  have e1 : (List.map FlowV.dat l).length = l.length := List.length_map _
  have e2 : (List.map FlowV.dat m).length = m.length := List.length_map _
  refine brNEq (fun h => ?_) (fun h => ?_)
  rotate_left
  · conv => whnf
    exact bF (fun hp => by subst hp; omega)
  · conv => whnf
    refine LoopK_intro hma hTa [(0, .pl), (1, .pl), (4, .pl), (5, .pl)] (fun i : Nat => ⟨[(0, .d (lD FlowV.dat l)), (1, .d (lD FlowV.dat m)), (4, .d (bD false)), (5, .d (iD i))], [], []⟩) (fun i => i ≤ l.length ∧ l.take i = m.take i) (fun i => l.length - i) (by kernel_rfl) ?_ ?_
    · conv => whnf
      exact ⟨0, ⟨by omega, by simp⟩, rfl⟩
    · intro i ⟨hi, hs⟩
      conv => whnf
      repeat' first
        | (refine brLt (fun h => ?_) (fun h => ?_) <;> conv => whnf)
        | (refine brNTr (fun h => ?_) (fun h => ?_) <;> conv => whnf)
        | (refine brNEq (fun h => ?_) (fun h => ?_) <;> conv => whnf)
        | (refine brNStr (fun h => ?_) (fun h => ?_) <;> conv => whnf)
        | (refine WrK_i64 (by omega) (by omega) ?_; conv => whnf)
        | (refine IxK_mapLt _ rfl (by omega) (fun x hx => ?_); conv => whnf)
        | (refine CallK_intro (c_laws_eqFlow _ _ (hok _ (get_mem ‹_›)) (hok2 _ (get_mem ‹_›))) ?_; conv => whnf)
      all_goals first
        | exact bT (by rwa [List.take_of_length_le (by omega), List.take_of_length_le (by omega)] at hs)
        | exact bF (fun hp => by subst hp; simp_all)
        | exact ⟨i + 1, ⟨by omega, by rw [take_snoc ‹l[i]? = some _›, take_snoc ‹m[i]? = some _›, hs]; simp_all⟩, (by show l.length - (i + 1) < l.length - i; omega), rfl⟩


theorem c_laws_szItem (x : ItemV) (left : Int) (h0 : 0 ≤ left) (h1 : left ≤ 1048576) (hx : x.ok) : Contract Try.prog 26 [.d x.dat, .d (iD left)] (.one (.d (iD (szR left x.wt)))) := by
  refine contract_by hma hTa Try.func26 (by kernel_rfl) (by kernel_rfl) ?_
  obtain ⟨k0, k1, k2, k3, k4, k5, k6, k7⟩ := hx
  unfold okS at k0; unfold okS at k1
  generalize hres : szR left x.wt = res
  conv => whnf
  repeat' first
    | (refine brLt (fun h => ?_) (fun h => ?_) <;> conv => whnf)
    | (refine WrK_i64 (by omega) (by omega) ?_; conv => whnf)
  all_goals
    rw [← hres]
    first
    | exact congrArg iD (by rw [szR_lt (by unfold ItemV.wt; omega)])
    | exact congrArg iD (by rw [szR_ge (by unfold ItemV.wt; omega)]; unfold ItemV.wt; omega)


theorem c_laws_toItem (x : ItemV) (hx : x.ok) : Contract Try.prog 28 [.d x.dat] (.one (.d x.dat)) := by
  refine contract_by hma hTa Try.func28 (by kernel_rfl) (by kernel_rfl) ?_
  obtain ⟨k0, k1, k2, k3, k4, k5, k6, k7⟩ := hx
  conv => whnf
  exact rfl


theorem c_laws_eqItem (x y : ItemV) (hx : x.ok) (hy : y.ok) : Contract Try.prog 67 [.d x.dat, .d y.dat] (.one (.d (bD (tr (x = y))))) := by
  refine contract_by hma hTa Try.func67 (by kernel_rfl) (by kernel_rfl) ?_
  obtain ⟨k0, k1, k2, k3, k4, k5, k6, k7⟩ := hx
  obtain ⟨m0, m1, m2, m3, m4, m5, m6, m7⟩ := hy
  conv => whnf
  repeat' first
    | (refine brLt (fun h => ?_) (fun h => ?_) <;> conv => whnf)
    | (refine brLe (fun h => ?_) (fun h => ?_) <;> conv => whnf)
    | (refine brEq (fun h => ?_) (fun h => ?_) <;> conv => whnf)
    | (refine brTr (fun h => ?_) (fun h => ?_) <;> conv => whnf)
    | (refine brNTr (fun h => ?_) (fun h => ?_) <;> conv => whnf)
    | (refine brNLt (fun h => ?_) (fun h => ?_) <;> conv => whnf)
    | (refine brNLe (fun h => ?_) (fun h => ?_) <;> conv => whnf)
    | (refine brNEq (fun h => ?_) (fun h => ?_) <;> conv => whnf)
    | (refine brStr (fun h => ?_) (fun h => ?_) <;> conv => whnf)
    | (refine brNStr (fun h => ?_) (fun h => ?_) <;> conv => whnf)
    | (refine brStrLt (fun h => ?_) (fun h => ?_) <;> conv => whnf)
    | (refine brNStrLt (fun h => ?_) (fun h => ?_) <;> conv => whnf)
    | (refine brNBEq (fun h => ?_) (fun h => ?_) <;> conv => whnf)
    | (refine brBEq (fun h => ?_) (fun h => ?_) <;> conv => whnf)
    | (refine WrK_i64 (by omega) (by omega) ?_; conv => whnf)
    | (refine takeK_full (by simp) ?_; conv => whnf)
    | (refine StrK_intro _ rfl (by assumption) ?_; conv => whnf)
    | (refine IxK_map _ rfl (by assumption) ?_; conv => whnf)
    | (refine StrK_lt _ rfl (by omega) (fun b hb => ?_); conv => whnf)
    | (refine IxK_mapLt _ rfl (by (try simp only [List.length_map] at *); omega) (fun x hx => ?_); conv => whnf)
    | (refine IxK_mapI (by omega) (by (try simp only [List.length_map] at *); omega) (fun j x hj hx => ?_); conv => whnf)
    | (refine NeedK_intro (by omega) ?_; conv => whnf)
  all_goals first
    | exact bF (fun hp => by subst hp; simp_all)
    | exact bT (by cases x; cases y; simp_all)


set_option maxHeartbeats 400000 in
theorem c_laws_szItemS (l : List ItemV) (left : Int) (h0 : 0 ≤ left) (h1 : left ≤ 1048576) (hl : okL ItemV.ok l) : Contract Try.prog 38 [.d (lD ItemV.dat l), .d (iD left)] (.one (.d (iD (szR left (wtL ItemV.wt l))))) := by
  refine contract_by hma hTa Try.func38 (by kernel_rfl) (by kernel_rfl) ?_
  obtain ⟨hlen, hok⟩ := hl
  have hw : wtL ItemV.wt l = l.length + sumW ItemV.wt l := rfl
  rw [hw]
  conv => whnf
  have e1 : (List.map ItemV.dat l).length = l.length := List.length_map _
  repeat' first
    | (refine brLt (fun h => ?_) (fun h => ?_) <;> conv => whnf)
    | (refine brLe (fun h => ?_) (fun h => ?_) <;> conv => whnf)
    | (refine brEq (fun h => ?_) (fun h => ?_) <;> conv => whnf)
    | (refine brTr (fun h => ?_) (fun h => ?_) <;> conv => whnf)
    | (refine brNTr (fun h => ?_) (fun h => ?_) <;> conv => whnf)
    | (refine brNLt (fun h => ?_) (fun h => ?_) <;> conv => whnf)
    | (refine brNLe (fun h => ?_) (fun h => ?_) <;> conv => whnf)
    | (refine brNEq (fun h => ?_) (fun h => ?_) <;> conv => whnf)
    | (refine brStr (fun h => ?_) (fun h => ?_) <;> conv => whnf)
    | (refine brNStr (fun h => ?_) (fun h => ?_) <;> conv => whnf)
    | (refine brStrLt (fun h => ?_) (fun h => ?_) <;> conv => whnf)
    | (refine brNStrLt (fun h => ?_) (fun h => ?_) <;> conv => whnf)
    | (refine brNBEq (fun h => ?_) (fun h => ?_) <;> conv => whnf)
    | (refine brBEq (fun h => ?_) (fun h => ?_) <;> conv => whnf)
    | (refine WrK_i64 (by omega) (by omega) ?_; conv => whnf)
    | (refine takeK_full (by simp) ?_; conv => whnf)
    | (refine StrK_intro _ rfl (by assumption) ?_; conv => whnf)
    | (refine IxK_map _ rfl (by assumption) ?_; conv => whnf)
    | (refine StrK_lt _ rfl (by omega) (fun b hb => ?_); conv => whnf)
    | (refine IxK_mapLt _ rfl (by (try simp only [List.length_map] at *); omega) (fun x hx => ?_); conv => whnf)
    | (refine IxK_mapI (by omega) (by (try simp only [List.length_map] at *); omega) (fun j x hj hx => ?_); conv => whnf)
    | (refine NeedK_intro (by omega) ?_; conv => whnf)
  · exact congrArg iD (by rw [szR_lt (by omega)])
  · refine LoopK_intro hma hTa [(0, .pl), (1, .pl), (4, .pl), (5, .pl)] (fun i : Nat => ⟨[(0, .d (lD ItemV.dat l)), (1, .d (iD (left - l.length - sumW ItemV.wt (l.take i)))), (4, .d (iD 0)), (5, .d (iD i))], [], []⟩) (fun i => i ≤ l.length ∧ (sumW ItemV.wt (l.take i) : Int) ≤ left - l.length) (fun i => l.length - i) (by kernel_rfl) ?_ ?_
    · conv => whnf
      exact ⟨0, ⟨by omega, by simp [sumW]; omega⟩, by simp [sumW, e1]⟩
    · intro i ⟨hi, hs⟩
      conv => whnf
      repeat' first
        | (refine brLt (fun h => ?_) (fun h => ?_) <;> conv => whnf)
        | (refine WrK_i64 (by omega) (by omega) ?_; conv => whnf)
        | (refine IxK_mapLt _ rfl (by omega) (fun x hx => ?_); (conv => whnf); have hx1 := sumW_take (f := ItemV.wt) hx; have hx2 := sumW_take_le ItemV.wt l (i + 1); have hx3 := get_lt hx; have hx4 := hok _ (get_mem hx))
        | (refine CallK_sz (c_laws_szItem _ _ (by omega) (by omega) (hok _ (get_mem ‹_›))) (fun hc => ?_) (fun hc => ?_) <;> conv => whnf)
      all_goals first
        | exact ⟨i + 1, ⟨by omega, by omega⟩, (by show l.length - (i + 1) < l.length - i; omega), (by
            have e3 : left - l.length - (sumW ItemV.wt (l.take i) : Int) - (ItemV.wt x : Nat) = left - l.length - (sumW ItemV.wt (l.take (i + 1)) : Int) := by omega
            dsimp only
            rw [← e3]
            rfl)⟩
        | (exfalso; omega)
        | exact congrArg iD (by rw [szR_lt (by omega)])
        | exact congrArg iD (by have e2 : l.take i = l := List.take_of_length_le (by omega); rw [e2] at hs ⊢; rw [szR_ge (by omega)]; omega)


set_option maxHeartbeats 400000 in
theorem c_laws_toItemS (l : List ItemV) (hw : wtL ItemV.wt l ≤ 1048576) (hok : ∀ v ∈ l, ItemV.ok v) : Contract Try.prog 40 [.d (lD ItemV.dat l)] (.one (.own ⟨43, 8, l.map ItemV.dat⟩)) := by
  have hlen : l.length ≤ 1048576 := Nat.le_trans wtL_len hw
  refine contract_by hma hTa Try.func40 (by kernel_rfl) (by kernel_rfl) ?_
  conv => whnf
  have e1 : (List.map ItemV.dat l).length = l.length := List.length_map _
  refine MkK_intro l.length (by omega) (by omega) (by omega) ?_
  conv => whnf
  refine LoopK_intro hma hTa [(0, .pl), (2, .pl), (3, .key 7), (4, .pl)] (fun i : Nat => ⟨[(0, .d (lD ItemV.dat l)), (2, .nil), (3, .av 7 l.length), (4, .d (iD i))], [(7, some ⟨43, 8, (l.take i).map ItemV.dat ++ List.replicate (l.length - i) (ItemV.z.dat)⟩)], []⟩) (fun i => i ≤ l.length) (fun i => l.length - i) (by kernel_rfl) ?_ ?_
  · conv => whnf
    exact ⟨0, by omega, rfl⟩
  · intro i hi
    conv => whnf
    refine brLt (fun h => ?_) (fun h => ?_) <;> conv => whnf
    · refine IxK_mapLt _ rfl (by omega) (fun x hx => ?_)
      conv => whnf
      refine CallK_intro (c_laws_toItem _ (hok _ (get_mem ‹_›))) ?_
      conv => whnf
      refine IxA_intro i rfl (by omega) ?_
      conv => whnf
      refine setK_intro (by rw [fill_len _ _ hi]; omega) (fill_step (f := ItemV.dat) hx).symm ?_
      conv => whnf
      refine WrK_i64 (by omega) (by omega) ?_
      conv => whnf
      exact ⟨i + 1, get_lt hx, (by show l.length - (i + 1) < l.length - i; omega), rfl⟩
    · have e2 : i = l.length := by omega
      subst e2
      rw [fill_end]
      exact ⟨rfl, rfl, e1.symm, rfl⟩


set_option maxHeartbeats 400000 in
theorem c_laws_eqItemS (l m : List ItemV) (hl : okL ItemV.ok l) (hm : okL ItemV.ok m) : Contract Try.prog 42 [.d (lD ItemV.dat l), .d (lD ItemV.dat m)] (.one (.d (bD (tr (l = m))))) := by
  refine contract_by hma hTa Try.func42 (by kernel_rfl) (by kernel_rfl) ?_
  obtain ⟨hlen, hok⟩ := hl
  obtain ⟨hlen2, hok2⟩ := hm
  conv => whnf
  have e1 : (List.map ItemV.dat l).length = l.length := List.length_map _
  have e2 : (List.map ItemV.dat m).length = m.length := List.length_map _
  refine brNEq (fun h => ?_) (fun h => ?_)
  rotate_left
  · conv => whnf
    exact bF (fun hp => by subst hp; omega)
  · conv => whnf
    refine LoopK_intro hma hTa [(0, .pl), (1, .pl), (4, .pl), (5, .pl)] (fun i : Nat => ⟨[(0, .d (lD ItemV.dat l)), (1, .d (lD ItemV.dat m)), (4, .d (bD false)), (5, .d (iD i))], [], []⟩) (fun i => i ≤ l.length ∧ l.take i = m.take i) (fun i => l.length - i) (by kernel_rfl) ?_ ?_
    · conv => whnf
      exact ⟨0, ⟨by omega, by simp⟩, rfl⟩
    · intro i ⟨hi, hs⟩
      conv => whnf
      repeat' first
        | (refine brLt (fun h => ?_) (fun h => ?_) <;> conv => whnf)
        | (refine brNTr (fun h => ?_) (fun h => ?_) <;> conv => whnf)
        | (refine brNEq (fun h => ?_) (fun h => ?_) <;> conv => whnf)
        | (refine brNStr (fun h => ?_) (fun h => ?_) <;> conv => whnf)
        | (refine WrK_i64 (by omega) (by omega) ?_; conv => whnf)
        | (refine IxK_mapLt _ rfl (by omega) (fun x hx => ?_); conv => whnf)
        | (refine CallK_intro (c_laws_eqItem _ _ (hok _ (get_mem ‹_›)) (hok2 _ (get_mem ‹_›))) ?_; conv => whnf)
      all_goals first
        | exact bT (by rwa [List.take_of_length_le (by omega), List.take_of_length_le (by omega)] at hs)
        | exact bF (fun hp => by subst hp; simp_all)
        | exact ⟨i + 1, ⟨by omega, by rw [take_snoc ‹l[i]? = some _›, take_snoc ‹m[i]? = some _›, hs]; simp_all⟩, (by show l.length - (i + 1) < l.length - i; omega), rfl⟩


theorem c_laws_szDemand (x : DemandV) (left : Int) (h0 : 0 ≤ left) (h1 : left ≤ 1048576) (hx : x.ok) : Contract Try.prog 68 [.d x.dat, .d (iD left)] (.one (.d (iD (szR left x.wt)))) := by
  refine contract_by hma hTa Try.func68 (by kernel_rfl) (by kernel_rfl) ?_
  obtain ⟨k0, k1, k2, k3, k4⟩ := hx
  unfold okS at k1
  generalize hres : szR left x.wt = res
  conv => whnf
  repeat' first
    | (refine brLt (fun h => ?_) (fun h => ?_) <;> conv => whnf)
    | (refine WrK_i64 (by omega) (by omega) ?_; conv => whnf)
  all_goals
    rw [← hres]
    first
    | exact congrArg iD (by rw [szR_lt (by unfold DemandV.wt; omega)])
    | exact congrArg iD (by rw [szR_ge (by unfold DemandV.wt; omega)]; unfold DemandV.wt; omega)


theorem c_laws_toDemand (x : DemandV) (hx : x.ok) : Contract Try.prog 69 [.d x.dat] (.one (.d x.dat)) := by
  refine contract_by hma hTa Try.func69 (by kernel_rfl) (by kernel_rfl) ?_
  obtain ⟨k0, k1, k2, k3, k4⟩ := hx
  conv => whnf
  exact rfl


theorem c_laws_eqDemand (x y : DemandV) (hx : x.ok) (hy : y.ok) : Contract Try.prog 70 [.d x.dat, .d y.dat] (.one (.d (bD (tr (x = y))))) := by
  refine contract_by hma hTa Try.func70 (by kernel_rfl) (by kernel_rfl) ?_
  obtain ⟨k0, k1, k2, k3, k4⟩ := hx
  obtain ⟨m0, m1, m2, m3, m4⟩ := hy
  conv => whnf
  repeat' first
    | (refine brLt (fun h => ?_) (fun h => ?_) <;> conv => whnf)
    | (refine brLe (fun h => ?_) (fun h => ?_) <;> conv => whnf)
    | (refine brEq (fun h => ?_) (fun h => ?_) <;> conv => whnf)
    | (refine brTr (fun h => ?_) (fun h => ?_) <;> conv => whnf)
    | (refine brNTr (fun h => ?_) (fun h => ?_) <;> conv => whnf)
    | (refine brNLt (fun h => ?_) (fun h => ?_) <;> conv => whnf)
    | (refine brNLe (fun h => ?_) (fun h => ?_) <;> conv => whnf)
    | (refine brNEq (fun h => ?_) (fun h => ?_) <;> conv => whnf)
    | (refine brStr (fun h => ?_) (fun h => ?_) <;> conv => whnf)
    | (refine brNStr (fun h => ?_) (fun h => ?_) <;> conv => whnf)
    | (refine brStrLt (fun h => ?_) (fun h => ?_) <;> conv => whnf)
    | (refine brNStrLt (fun h => ?_) (fun h => ?_) <;> conv => whnf)
    | (refine brNBEq (fun h => ?_) (fun h => ?_) <;> conv => whnf)
    | (refine brBEq (fun h => ?_) (fun h => ?_) <;> conv => whnf)
    | (refine WrK_i64 (by omega) (by omega) ?_; conv => whnf)
    | (refine takeK_full (by simp) ?_; conv => whnf)
    | (refine StrK_intro _ rfl (by assumption) ?_; conv => whnf)
    | (refine IxK_map _ rfl (by assumption) ?_; conv => whnf)
    | (refine StrK_lt _ rfl (by omega) (fun b hb => ?_); conv => whnf)
    | (refine IxK_mapLt _ rfl (by (try simp only [List.length_map] at *); omega) (fun x hx => ?_); conv => whnf)
    | (refine IxK_mapI (by omega) (by (try simp only [List.length_map] at *); omega) (fun j x hj hx => ?_); conv => whnf)
    | (refine NeedK_intro (by omega) ?_; conv => whnf)
  all_goals first
    | exact bF (fun hp => by subst hp; simp_all)
    | exact bT (by cases x; cases y; simp_all)


set_option maxHeartbeats 400000 in
theorem c_laws_szDemandS (l : List DemandV) (left : Int) (h0 : 0 ≤ left) (h1 : left ≤ 1048576) (hl : okL DemandV.ok l) : Contract Try.prog 43 [.d (lD DemandV.dat l), .d (iD left)] (.one (.d (iD (szR left (wtL DemandV.wt l))))) := by
  refine contract_by hma hTa Try.func43 (by kernel_rfl) (by kernel_rfl) ?_
  obtain ⟨hlen, hok⟩ := hl
  have hw : wtL DemandV.wt l = l.length + sumW DemandV.wt l := rfl
  rw [hw]
  conv => whnf
  have e1 : (List.map DemandV.dat l).length = l.length := List.length_map _
  repeat' first
    | (refine brLt (fun h => ?_) (fun h => ?_) <;> conv => whnf)
    | (refine brLe (fun h => ?_) (fun h => ?_) <;> conv => whnf)
    | (refine brEq (fun h => ?_) (fun h => ?_) <;> conv => whnf)
    | (refine brTr (fun h => ?_) (fun h => ?_) <;> conv => whnf)
    | (refine brNTr (fun h => ?_) (fun h => ?_) <;> conv => whnf)
    | (refine brNLt (fun h => ?_) (fun h => ?_) <;> conv => whnf)
    | (refine brNLe (fun h => ?_) (fun h => ?_) <;> conv => whnf)
    | (refine brNEq (fun h => ?_) (fun h => ?_) <;> conv => whnf)
    | (refine brStr (fun h => ?_) (fun h => ?_) <;> conv => whnf)
    | (refine brNStr (fun h => ?_) (fun h => ?_) <;> conv => whnf)
    | (refine brStrLt (fun h => ?_) (fun h => ?_) <;> conv => whnf)
    | (refine brNStrLt (fun h => ?_) (fun h => ?_) <;> conv => whnf)
    | (refine brNBEq (fun h => ?_) (fun h => ?_) <;> conv => whnf)
    | (refine brBEq (fun h => ?_) (fun h => ?_) <;> conv => whnf)
    | (refine WrK_i64 (by omega) (by omega) ?_; conv => whnf)
    | (refine takeK_full (by simp) ?_; conv => whnf)
    | (refine StrK_intro _ rfl (by assumption) ?_; conv => whnf)
    | (refine IxK_map _ rfl (by assumption) ?_; conv => whnf)
    | (refine StrK_lt _ rfl (by omega) (fun b hb => ?_); conv => whnf)
    | (refine IxK_mapLt _ rfl (by (try simp only [List.length_map] at *); omega) (fun x hx => ?_); conv => whnf)
    | (refine IxK_mapI (by omega) (by (try simp only [List.length_map] at *); omega) (fun j x hj hx => ?_); conv => whnf)
    | (refine NeedK_intro (by omega) ?_; conv => whnf)
  · exact congrArg iD (by rw [szR_lt (by omega)])
  · refine LoopK_intro hma hTa [(0, .pl), (1, .pl), (4, .pl), (5, .pl)] (fun i : Nat => ⟨[(0, .d (lD DemandV.dat l)), (1, .d (iD (left - l.length - sumW DemandV.wt (l.take i)))), (4, .d (iD 0)), (5, .d (iD i))], [], []⟩) (fun i => i ≤ l.length ∧ (sumW DemandV.wt (l.take i) : Int) ≤ left - l.length) (fun i => l.length - i) (by kernel_rfl) ?_ ?_
    · conv => whnf
      exact ⟨0, ⟨by omega, by simp [sumW]; omega⟩, by simp [sumW, e1]⟩
    · intro i ⟨hi, hs⟩
      conv => whnf
      repeat' first
        | (refine brLt (fun h => ?_) (fun h => ?_) <;> conv => whnf)
        | (refine WrK_i64 (by omega) (by omega) ?_; conv => whnf)
        | (refine IxK_mapLt _ rfl (by omega) (fun x hx => ?_); (conv => whnf); have hx1 := sumW_take (f := DemandV.wt) hx; have hx2 := sumW_take_le DemandV.wt l (i + 1); have hx3 := get_lt hx; have hx4 := hok _ (get_mem hx))
        | (refine CallK_sz (c_laws_szDemand _ _ (by omega) (by omega) (hok _ (get_mem ‹_›))) (fun hc => ?_) (fun hc => ?_) <;> conv => whnf)
      all_goals first
        | exact ⟨i + 1, ⟨by omega, by omega⟩, (by show l.length - (i + 1) < l.length - i; omega), (by
            have e3 : left - l.length - (sumW DemandV.wt (l.take i) : Int) - (DemandV.wt x : Nat) = left - l.length - (sumW DemandV.wt (l.take (i + 1)) : Int) := by omega
            dsimp only
            rw [← e3]
            rfl)⟩
        | (exfalso; omega)
        | exact congrArg iD (by rw [szR_lt (by omega)])
        | exact congrArg iD (by have e2 : l.take i = l := List.take_of_length_le (by omega); rw [e2] at hs ⊢; rw [szR_ge (by omega)]; omega)


set_option maxHeartbeats 400000 in
theorem c_laws_toDemandS (l : List DemandV) (hw : wtL DemandV.wt l ≤ 1048576) (hok : ∀ v ∈ l, DemandV.ok v) : Contract Try.prog 45 [.d (lD DemandV.dat l)] (.one (.own ⟨97, 5, l.map DemandV.dat⟩)) := by
  have hlen : l.length ≤ 1048576 := Nat.le_trans wtL_len hw
  refine contract_by hma hTa Try.func45 (by kernel_rfl) (by kernel_rfl) ?_
  conv => whnf
  have e1 : (List.map DemandV.dat l).length = l.length := List.length_map _
  refine MkK_intro l.length (by omega) (by omega) (by omega) ?_
  conv => whnf
  refine LoopK_intro hma hTa [(0, .pl), (2, .pl), (3, .key 7), (4, .pl)] (fun i : Nat => ⟨[(0, .d (lD DemandV.dat l)), (2, .nil), (3, .av 7 l.length), (4, .d (iD i))], [(7, some ⟨97, 5, (l.take i).map DemandV.dat ++ List.replicate (l.length - i) (DemandV.z.dat)⟩)], []⟩) (fun i => i ≤ l.length) (fun i => l.length - i) (by kernel_rfl) ?_ ?_
  · conv => whnf
    exact ⟨0, by omega, rfl⟩
  · intro i hi
    conv => whnf
    refine brLt (fun h => ?_) (fun h => ?_) <;> conv => whnf
    · refine IxK_mapLt _ rfl (by omega) (fun x hx => ?_)
      conv => whnf
      refine CallK_intro (c_laws_toDemand _ (hok _ (get_mem ‹_›))) ?_
      conv => whnf
      refine IxA_intro i rfl (by omega) ?_
      conv => whnf
      refine setK_intro (by rw [fill_len _ _ hi]; omega) (fill_step (f := DemandV.dat) hx).symm ?_
      conv => whnf
      refine WrK_i64 (by omega) (by omega) ?_
      conv => whnf
      exact ⟨i + 1, get_lt hx, (by show l.length - (i + 1) < l.length - i; omega), rfl⟩
    · have e2 : i = l.length := by omega
      subst e2
      rw [fill_end]
      exact ⟨rfl, rfl, e1.symm, rfl⟩


set_option maxHeartbeats 400000 in
theorem c_laws_eqDemandS (l m : List DemandV) (hl : okL DemandV.ok l) (hm : okL DemandV.ok m) : Contract Try.prog 47 [.d (lD DemandV.dat l), .d (lD DemandV.dat m)] (.one (.d (bD (tr (l = m))))) := by
  refine contract_by hma hTa Try.func47 (by kernel_rfl) (by kernel_rfl) ?_
  obtain ⟨hlen, hok⟩ := hl
  obtain ⟨hlen2, hok2⟩ := hm
  conv => whnf
  have e1 : (List.map DemandV.dat l).length = l.length := List.length_map _
  have e2 : (List.map DemandV.dat m).length = m.length := List.length_map _
  refine brNEq (fun h => ?_) (fun h => ?_)
  rotate_left
  · conv => whnf
    exact bF (fun hp => by subst hp; omega)
  · conv => whnf
    refine LoopK_intro hma hTa [(0, .pl), (1, .pl), (4, .pl), (5, .pl)] (fun i : Nat => ⟨[(0, .d (lD DemandV.dat l)), (1, .d (lD DemandV.dat m)), (4, .d (bD false)), (5, .d (iD i))], [], []⟩) (fun i => i ≤ l.length ∧ l.take i = m.take i) (fun i => l.length - i) (by kernel_rfl) ?_ ?_
    · conv => whnf
      exact ⟨0, ⟨by omega, by simp⟩, rfl⟩
    · intro i ⟨hi, hs⟩
      conv => whnf
      repeat' first
        | (refine brLt (fun h => ?_) (fun h => ?_) <;> conv => whnf)
        | (refine brNTr (fun h => ?_) (fun h => ?_) <;> conv => whnf)
        | (refine brNEq (fun h => ?_) (fun h => ?_) <;> conv => whnf)
        | (refine brNStr (fun h => ?_) (fun h => ?_) <;> conv => whnf)
        | (refine WrK_i64 (by omega) (by omega) ?_; conv => whnf)
        | (refine IxK_mapLt _ rfl (by omega) (fun x hx => ?_); conv => whnf)
        | (refine CallK_intro (c_laws_eqDemand _ _ (hok _ (get_mem ‹_›)) (hok2 _ (get_mem ‹_›))) ?_; conv => whnf)
      all_goals first
        | exact bT (by rwa [List.take_of_length_le (by omega), List.take_of_length_le (by omega)] at hs)
        | exact bF (fun hp => by subst hp; simp_all)
        | exact ⟨i + 1, ⟨by omega, by rw [take_snoc ‹l[i]? = some _›, take_snoc ‹m[i]? = some _›, hs]; simp_all⟩, (by show l.length - (i + 1) < l.length - i; omega), rfl⟩


theorem c_laws_szRouting (x : RoutingV) (left : Int) (h0 : 0 ≤ left) (h1 : left ≤ 1048576) (hx : x.ok) : Contract Try.prog 48 [.d x.dat, .d (iD left)] (.one (.d (iD (szR left x.wt)))) := by
  refine contract_by hma hTa Try.func48 (by kernel_rfl) (by kernel_rfl) ?_
  obtain ⟨k0, k1⟩ := hx
  unfold okS at k0
  generalize hres : szR left x.wt = res
  conv => whnf
  repeat' first
    | (refine brLt (fun h => ?_) (fun h => ?_) <;> conv => whnf)
    | (refine WrK_i64 (by omega) (by omega) ?_; conv => whnf)
    | (refine CallK_sz (c_laws_szStepS x.steps _ (by omega) (by omega) (by assumption)) (fun hc => ?_) (fun hc => ?_) <;> conv => whnf)
  all_goals
    rw [← hres]
    first
    | exact congrArg iD (by rw [szR_lt (by unfold RoutingV.wt; omega)])
    | exact congrArg iD (by rw [szR_ge (by unfold RoutingV.wt; omega)]; unfold RoutingV.wt; omega)


theorem c_laws_toRouting (x : RoutingV) (hx : x.ok) (hw : x.wt ≤ 1048576) : Contract Try.prog 50 [.d x.dat] (.one (.d x.dat)) := by
  refine contract_by hma hTa Try.func50 (by kernel_rfl) (by kernel_rfl) ?_
  obtain ⟨k0, k1⟩ := hx
  conv => whnf
  refine CallK_intro (c_laws_toStepS x.steps (by unfold RoutingV.wt at hw; omega) (And.right (by assumption))) ?_
  conv => whnf
  refine takeK_full (by simp) ?_
  conv => whnf
  exact rfl


theorem c_laws_eqRouting (x y : RoutingV) (hx : x.ok) (hy : y.ok) : Contract Try.prog 52 [.d x.dat, .d y.dat] (.one (.d (bD (tr (x = y))))) := by
  refine contract_by hma hTa Try.func52 (by kernel_rfl) (by kernel_rfl) ?_
  obtain ⟨k0, k1⟩ := hx
  obtain ⟨m0, m1⟩ := hy
  conv => whnf
  repeat' first
    | (refine brLt (fun h => ?_) (fun h => ?_) <;> conv => whnf)
    | (refine brLe (fun h => ?_) (fun h => ?_) <;> conv => whnf)
    | (refine brEq (fun h => ?_) (fun h => ?_) <;> conv => whnf)
    | (refine brTr (fun h => ?_) (fun h => ?_) <;> conv => whnf)
    | (refine brNTr (fun h => ?_) (fun h => ?_) <;> conv => whnf)
    | (refine brNLt (fun h => ?_) (fun h => ?_) <;> conv => whnf)
    | (refine brNLe (fun h => ?_) (fun h => ?_) <;> conv => whnf)
    | (refine brNEq (fun h => ?_) (fun h => ?_) <;> conv => whnf)
    | (refine brStr (fun h => ?_) (fun h => ?_) <;> conv => whnf)
    | (refine brNStr (fun h => ?_) (fun h => ?_) <;> conv => whnf)
    | (refine brStrLt (fun h => ?_) (fun h => ?_) <;> conv => whnf)
    | (refine brNStrLt (fun h => ?_) (fun h => ?_) <;> conv => whnf)
    | (refine brNBEq (fun h => ?_) (fun h => ?_) <;> conv => whnf)
    | (refine brBEq (fun h => ?_) (fun h => ?_) <;> conv => whnf)
    | (refine CallK_intro (c_laws_eqStepS _ _ (by assumption) (by assumption)) ?_; conv => whnf)
    | (refine WrK_i64 (by omega) (by omega) ?_; conv => whnf)
    | (refine takeK_full (by simp) ?_; conv => whnf)
    | (refine StrK_intro _ rfl (by assumption) ?_; conv => whnf)
    | (refine IxK_map _ rfl (by assumption) ?_; conv => whnf)
    | (refine StrK_lt _ rfl (by omega) (fun b hb => ?_); conv => whnf)
    | (refine IxK_mapLt _ rfl (by (try simp only [List.length_map] at *); omega) (fun x hx => ?_); conv => whnf)
    | (refine IxK_mapI (by omega) (by (try simp only [List.length_map] at *); omega) (fun j x hj hx => ?_); conv => whnf)
    | (refine NeedK_intro (by omega) ?_; conv => whnf)
  all_goals first
    | exact bF (fun hp => by subst hp; simp_all)
    | exact bT (by cases x; cases y; simp_all)


set_option maxHeartbeats 400000 in
theorem c_laws_szRoutingS (l : List RoutingV) (left : Int) (h0 : 0 ≤ left) (h1 : left ≤ 1048576) (hl : okL RoutingV.ok l) : Contract Try.prog 53 [.d (lD RoutingV.dat l), .d (iD left)] (.one (.d (iD (szR left (wtL RoutingV.wt l))))) := by
  refine contract_by hma hTa Try.func53 (by kernel_rfl) (by kernel_rfl) ?_
  obtain ⟨hlen, hok⟩ := hl
  have hw : wtL RoutingV.wt l = l.length + sumW RoutingV.wt l := rfl
  rw [hw]
  conv => whnf
  have e1 : (List.map RoutingV.dat l).length = l.length := List.length_map _
  repeat' first
    | (refine brLt (fun h => ?_) (fun h => ?_) <;> conv => whnf)
    | (refine brLe (fun h => ?_) (fun h => ?_) <;> conv => whnf)
    | (refine brEq (fun h => ?_) (fun h => ?_) <;> conv => whnf)
    | (refine brTr (fun h => ?_) (fun h => ?_) <;> conv => whnf)
    | (refine brNTr (fun h => ?_) (fun h => ?_) <;> conv => whnf)
    | (refine brNLt (fun h => ?_) (fun h => ?_) <;> conv => whnf)
    | (refine brNLe (fun h => ?_) (fun h => ?_) <;> conv => whnf)
    | (refine brNEq (fun h => ?_) (fun h => ?_) <;> conv => whnf)
    | (refine brStr (fun h => ?_) (fun h => ?_) <;> conv => whnf)
    | (refine brNStr (fun h => ?_) (fun h => ?_) <;> conv => whnf)
    | (refine brStrLt (fun h => ?_) (fun h => ?_) <;> conv => whnf)
    | (refine brNStrLt (fun h => ?_) (fun h => ?_) <;> conv => whnf)
    | (refine brNBEq (fun h => ?_) (fun h => ?_) <;> conv => whnf)
    | (refine brBEq (fun h => ?_) (fun h => ?_) <;> conv => whnf)
    | (refine WrK_i64 (by omega) (by omega) ?_; conv => whnf)
    | (refine takeK_full (by simp) ?_; conv => whnf)
    | (refine StrK_intro _ rfl (by assumption) ?_; conv => whnf)
    | (refine IxK_map _ rfl (by assumption) ?_; conv => whnf)
    | (refine StrK_lt _ rfl (by omega) (fun b hb => ?_); conv => whnf)
    | (refine IxK_mapLt _ rfl (by (try simp only [List.length_map] at *); omega) (fun x hx => ?_); conv => whnf)
    | (refine IxK_mapI (by omega) (by (try simp only [List.length_map] at *); omega) (fun j x hj hx => ?_); conv => whnf)
    | (refine NeedK_intro (by omega) ?_; conv => whnf)
  · exact congrArg iD (by rw [szR_lt (by omega)])
  · refine LoopK_intro hma hTa [(0, .pl), (1, .pl), (4, .pl), (5, .pl)] (fun i : Nat => ⟨[(0, .d (lD RoutingV.dat l)), (1, .d (iD (left - l.length - sumW RoutingV.wt (l.take i)))), (4, .d (iD 0)), (5, .d (iD i))], [], []⟩) (fun i => i ≤ l.length ∧ (sumW RoutingV.wt (l.take i) : Int) ≤ left - l.length) (fun i => l.length - i) (by kernel_rfl) ?_ ?_
    · conv => whnf
      exact ⟨0, ⟨by omega, by simp [sumW]; omega⟩, by simp [sumW, e1]⟩
    · intro i ⟨hi, hs⟩
      conv => whnf
      repeat' first
        | (refine brLt (fun h => ?_) (fun h => ?_) <;> conv => whnf)
        | (refine WrK_i64 (by omega) (by omega) ?_; conv => whnf)
        | (refine IxK_mapLt _ rfl (by omega) (fun x hx => ?_); (conv => whnf); have hx1 := sumW_take (f := RoutingV.wt) hx; have hx2 := sumW_take_le RoutingV.wt l (i + 1); have hx3 := get_lt hx; have hx4 := hok _ (get_mem hx))
        | (refine CallK_sz (c_laws_szRouting _ _ (by omega) (by omega) (hok _ (get_mem ‹_›))) (fun hc => ?_) (fun hc => ?_) <;> conv => whnf)
      all_goals first
        | exact ⟨i + 1, ⟨by omega, by omega⟩, (by show l.length - (i + 1) < l.length - i; omega), (by
            have e3 : left - l.length - (sumW RoutingV.wt (l.take i) : Int) - (RoutingV.wt x : Nat) = left - l.length - (sumW RoutingV.wt (l.take (i + 1)) : Int) := by omega
            dsimp only
            rw [← e3]
            rfl)⟩
        | (exfalso; omega)
        | exact congrArg iD (by rw [szR_lt (by omega)])
        | exact congrArg iD (by have e2 : l.take i = l := List.take_of_length_le (by omega); rw [e2] at hs ⊢; rw [szR_ge (by omega)]; omega)


set_option maxHeartbeats 400000 in
theorem c_laws_toRoutingS (l : List RoutingV) (hw : wtL RoutingV.wt l ≤ 1048576) (hok : ∀ v ∈ l, RoutingV.ok v) : Contract Try.prog 55 [.d (lD RoutingV.dat l)] (.one (.own ⟨73, 2, l.map RoutingV.dat⟩)) := by
  have hlen : l.length ≤ 1048576 := Nat.le_trans wtL_len hw
  refine contract_by hma hTa Try.func55 (by kernel_rfl) (by kernel_rfl) ?_
  conv => whnf
  have e1 : (List.map RoutingV.dat l).length = l.length := List.length_map _
  refine MkK_intro l.length (by omega) (by omega) (by omega) ?_
  conv => whnf
  refine LoopK_intro hma hTa [(0, .pl), (2, .pl), (3, .key 7), (4, .pl)] (fun i : Nat => ⟨[(0, .d (lD RoutingV.dat l)), (2, .nil), (3, .av 7 l.length), (4, .d (iD i))], [(7, some ⟨73, 2, (l.take i).map RoutingV.dat ++ List.replicate (l.length - i) (RoutingV.z.dat)⟩)], []⟩) (fun i => i ≤ l.length) (fun i => l.length - i) (by kernel_rfl) ?_ ?_
  · conv => whnf
    exact ⟨0, by omega, rfl⟩
  · intro i hi
    conv => whnf
    refine brLt (fun h => ?_) (fun h => ?_) <;> conv => whnf
    · refine IxK_mapLt _ rfl (by omega) (fun x hx => ?_)
      conv => whnf
      refine CallK_intro (c_laws_toRouting _ (hok _ (get_mem ‹_›)) (Nat.le_trans (wtL_mem (get_mem ‹_›)) hw)) ?_
      conv => whnf
      refine IxA_intro i rfl (by omega) ?_
      conv => whnf
      refine setK_intro (by rw [fill_len _ _ hi]; omega) (fill_step (f := RoutingV.dat) hx).symm ?_
      conv => whnf
      refine WrK_i64 (by omega) (by omega) ?_
      conv => whnf
      exact ⟨i + 1, get_lt hx, (by show l.length - (i + 1) < l.length - i; omega), rfl⟩
    · have e2 : i = l.length := by omega
      subst e2
      rw [fill_end]
      exact ⟨rfl, rfl, e1.symm, rfl⟩


set_option maxHeartbeats 400000 in
theorem c_laws_eqRoutingS (l m : List RoutingV) (hl : okL RoutingV.ok l) (hm : okL RoutingV.ok m) : Contract Try.prog 57 [.d (lD RoutingV.dat l), .d (lD RoutingV.dat m)] (.one (.d (bD (tr (l = m))))) := by
  refine contract_by hma hTa Try.func57 (by kernel_rfl) (by kernel_rfl) ?_
  obtain ⟨hlen, hok⟩ := hl
  obtain ⟨hlen2, hok2⟩ := hm
  conv => whnf
  have e1 : (List.map RoutingV.dat l).length = l.length := List.length_map _
  have e2 : (List.map RoutingV.dat m).length = m.length := List.length_map _
  refine brNEq (fun h => ?_) (fun h => ?_)
  rotate_left
  · conv => whnf
    exact bF (fun hp => by subst hp; omega)
  · conv => whnf
    refine LoopK_intro hma hTa [(0, .pl), (1, .pl), (4, .pl), (5, .pl)] (fun i : Nat => ⟨[(0, .d (lD RoutingV.dat l)), (1, .d (lD RoutingV.dat m)), (4, .d (bD false)), (5, .d (iD i))], [], []⟩) (fun i => i ≤ l.length ∧ l.take i = m.take i) (fun i => l.length - i) (by kernel_rfl) ?_ ?_
    · conv => whnf
      exact ⟨0, ⟨by omega, by simp⟩, rfl⟩
    · intro i ⟨hi, hs⟩
      conv => whnf
      repeat' first
        | (refine brLt (fun h => ?_) (fun h => ?_) <;> conv => whnf)
        | (refine brNTr (fun h => ?_) (fun h => ?_) <;> conv => whnf)
        | (refine brNEq (fun h => ?_) (fun h => ?_) <;> conv => whnf)
        | (refine brNStr (fun h => ?_) (fun h => ?_) <;> conv => whnf)
        | (refine WrK_i64 (by omega) (by omega) ?_; conv => whnf)
        | (refine IxK_mapLt _ rfl (by omega) (fun x hx => ?_); conv => whnf)
        | (refine CallK_intro (c_laws_eqRouting _ _ (hok _ (get_mem ‹_›)) (hok2 _ (get_mem ‹_›))) ?_; conv => whnf)
      all_goals first
        | exact bT (by rwa [List.take_of_length_le (by omega), List.take_of_length_le (by omega)] at hs)
        | exact bF (fun hp => by subst hp; simp_all)
        | exact ⟨i + 1, ⟨by omega, by rw [take_snoc ‹l[i]? = some _›, take_snoc ‹m[i]? = some _›, hs]; simp_all⟩, (by show l.length - (i + 1) < l.length - i; omega), rfl⟩


end Go.DL
