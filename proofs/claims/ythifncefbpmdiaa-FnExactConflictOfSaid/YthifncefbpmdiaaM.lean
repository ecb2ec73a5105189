/- Contracts of functions of the program, at this seat: what each call returns, by its arguments as data; each states its own conditions. -/
import Derived.Test.YthifncefbpmdiaaT
namespace Go.DL
set_option maxRecDepth 100000
set_option maxHeartbeats 2000000
set_option linter.unusedSimpArgs false
set_option linter.unusedVariables false
open Go.RowKit Go.Proofs Go.Proofs.Ythifncefbpmdiaa

theorem c_laws_szItem (x : ItemV) (left : Int) (h0 : 0 ≤ left) (h1 : left ≤ 1048576) (hx : x.ok) : Contract Try.prog 90 [.d x.dat, .d (iD left)] (.one (.d (iD (szR left x.wt)))) := by
  refine contract_by hma hTa Try.func90 (by kernel_rfl) (by kernel_rfl) ?_
  obtain ⟨k0, k1, k2, k3, k4, k5, k6, k7⟩ := hx
  unfold okS at k0; unfold okS at k1
  generalize hres : szR left x.wt = res
  conv => whnf
  repeat' first
    | (refine brLt (fun h => ?_) (fun h => ?_) <;> conv => whnf)
    | (refine WrK_i64 (by omega) (by omega) ?_; conv => whnf)
  all_goals
    rw [← hres]
    first
    | (exfalso; omega)
    | exact congrArg iD (by rw [szR_lt (by unfold ItemV.wt; omega)])
    | exact congrArg iD (by rw [szR_ge (by unfold ItemV.wt; omega)]; unfold ItemV.wt; omega)


theorem c_laws_toItem (x : ItemV) (hx : x.ok) : Contract Try.prog 94 [.d x.dat] (.one (.d x.dat)) := by
  refine contract_by hma hTa Try.func94 (by kernel_rfl) (by kernel_rfl) ?_
  obtain ⟨k0, k1, k2, k3, k4, k5, k6, k7⟩ := hx
  conv => whnf
  exact rfl


theorem c_laws_eqItem (x y : ItemV) (hx : x.ok) (hy : y.ok) : Contract Try.prog 98 [.d x.dat, .d y.dat] (.one (.d (bD (tr (x = y))))) := by
  refine contract_by hma hTa Try.func98 (by kernel_rfl) (by kernel_rfl) ?_
  obtain ⟨k0, k1, k2, k3, k4, k5, k6, k7⟩ := hx
  obtain ⟨m0, m1, m2, m3, m4, m5, m6, m7⟩ := hy
  conv => whnf
  repeat' first
    | (refine brLt (fun h => ?_) (fun h => ?_) <;> conv => whnf)
    | (refine brLe (fun h => ?_) (fun h => ?_) <;> conv => whnf)
    | (refine brEq (fun h => ?_) (fun h => ?_) <;> conv => whnf)
    | (refine brTr (fun h => ?_) (fun h => ?_) <;> conv => whnf)
    | (refine brNTr (fun h => ?_) (fun h => ?_) <;> conv => whnf)
    | (refine brNLt (fun h => ?_) (fun h => ?_) <;> conv => whnf)
    | (refine brNLe (fun h => ?_) (fun h => ?_) <;> conv => whnf)
    | (refine brNEq (fun h => ?_) (fun h => ?_) <;> conv => whnf)
    | (refine brStr (fun h => ?_) (fun h => ?_) <;> conv => whnf)
    | (refine brNStr (fun h => ?_) (fun h => ?_) <;> conv => whnf)
    | (refine brStrLt (fun h => ?_) (fun h => ?_) <;> conv => whnf)
    | (refine brNStrLt (fun h => ?_) (fun h => ?_) <;> conv => whnf)
    | (refine brNBEq (fun h => ?_) (fun h => ?_) <;> conv => whnf)
    | (refine brBEq (fun h => ?_) (fun h => ?_) <;> conv => whnf)
    | (refine WrK_i64 (by omega) (by omega) ?_; conv => whnf)
    | (refine takeK_full (by first | exact rfl | exact (List.length_map _).symm | exact List.length_map _ | omega) ?_; conv => whnf)
    | (refine StrK_intro _ rfl (by assumption) ?_; conv => whnf)
    | (refine IxK_map _ rfl (by assumption) ?_; conv => whnf)
    | (refine StrK_lt _ rfl (by omega) (fun b hb => ?_); conv => whnf)
    | (refine IxK_mapLt _ rfl (by (try simp only [List.length_map] at *); omega) (fun x hx => ?_); conv => whnf)
    | (refine IxK_mapI (by omega) (by (try simp only [List.length_map] at *); omega) (fun j x hj hx => ?_); conv => whnf)
    | (refine NeedK_intro (by omega) ?_; conv => whnf)
  all_goals first
    | exact bF (fun hp => by subst hp; simp_all)
    | exact bT (by cases x; cases y; simp_all)


set_option maxHeartbeats 400000 in
theorem c_laws_szItemS (l : List ItemV) (left : Int) (h0 : 0 ≤ left) (h1 : left ≤ 1048576) (hl : okL ItemV.ok l) : Contract Try.prog 30 [.d (lD ItemV.dat l), .d (iD left)] (.one (.d (iD (szR left (wtL ItemV.wt l))))) := by
  refine contract_by hma hTa Try.func30 (by kernel_rfl) (by kernel_rfl) ?_
  obtain ⟨hlen, hok⟩ := hl
  have hw : wtL ItemV.wt l = l.length + sumW ItemV.wt l := rfl
  rw [hw]
  conv => whnf
  have e1 : (List.map ItemV.dat l).length = l.length := List.length_map _
  repeat' first
    | (refine brLt (fun h => ?_) (fun h => ?_) <;> conv => whnf)
    | (refine brLe (fun h => ?_) (fun h => ?_) <;> conv => whnf)
    | (refine brEq (fun h => ?_) (fun h => ?_) <;> conv => whnf)
    | (refine brTr (fun h => ?_) (fun h => ?_) <;> conv => whnf)
    | (refine brNTr (fun h => ?_) (fun h => ?_) <;> conv => whnf)
    | (refine brNLt (fun h => ?_) (fun h => ?_) <;> conv => whnf)
    | (refine brNLe (fun h => ?_) (fun h => ?_) <;> conv => whnf)
    | (refine brNEq (fun h => ?_) (fun h => ?_) <;> conv => whnf)
    | (refine brStr (fun h => ?_) (fun h => ?_) <;> conv => whnf)
    | (refine brNStr (fun h => ?_) (fun h => ?_) <;> conv => whnf)
    | (refine brStrLt (fun h => ?_) (fun h => ?_) <;> conv => whnf)
    | (refine brNStrLt (fun h => ?_) (fun h => ?_) <;> conv => whnf)
    | (refine brNBEq (fun h => ?_) (fun h => ?_) <;> conv => whnf)
    | (refine brBEq (fun h => ?_) (fun h => ?_) <;> conv => whnf)
    | (refine WrK_i64 (by omega) (by omega) ?_; conv => whnf)
    | (refine takeK_full (by first | exact rfl | exact (List.length_map _).symm | exact List.length_map _ | omega) ?_; conv => whnf)
    | (refine StrK_intro _ rfl (by assumption) ?_; conv => whnf)
    | (refine IxK_map _ rfl (by assumption) ?_; conv => whnf)
    | (refine StrK_lt _ rfl (by omega) (fun b hb => ?_); conv => whnf)
    | (refine IxK_mapLt _ rfl (by (try simp only [List.length_map] at *); omega) (fun x hx => ?_); conv => whnf)
    | (refine IxK_mapI (by omega) (by (try simp only [List.length_map] at *); omega) (fun j x hj hx => ?_); conv => whnf)
    | (refine NeedK_intro (by omega) ?_; conv => whnf)
  · exact congrArg iD (by rw [szR_lt (by omega)])
  · refine LoopK_intro hma hTa [(0, .pl), (1, .pl), (4, .pl), (5, .pl)] (fun i : Nat => ⟨[(0, .d (lD ItemV.dat l)), (1, .d (iD (left - l.length - sumW ItemV.wt (l.take i)))), (4, .d (iD 0)), (5, .d (iD i))], [], []⟩) (fun i => i ≤ l.length ∧ (sumW ItemV.wt (l.take i) : Int) ≤ left - l.length) (fun i => l.length - i) (by kernel_rfl) ?_ ?_
    · conv => whnf
      exact ⟨0, ⟨by omega, by simp [sumW]; omega⟩, by simp [sumW, e1]⟩
    · intro i ⟨hi, hs⟩
      conv => whnf
      repeat' first
        | (refine brLt (fun h => ?_) (fun h => ?_) <;> conv => whnf)
        | (refine WrK_i64 (by omega) (by omega) ?_; conv => whnf)
        | (refine IxK_mapLt _ rfl (by omega) (fun x hx => ?_); (conv => whnf); have hx1 := sumW_take (f := ItemV.wt) hx; have hx2 := sumW_take_le ItemV.wt l (i + 1); have hx3 := get_lt hx; have hx4 := hok _ (get_mem hx))
        | (refine CallK_sz (c_laws_szItem _ _ (by omega) (by omega) (hok _ (get_mem ‹_›))) (fun hc => ?_) (fun hc => ?_) <;> conv => whnf)
      all_goals first
        | exact ⟨i + 1, ⟨by omega, by omega⟩, (by show l.length - (i + 1) < l.length - i; omega), (by
            have e3 : left - l.length - (sumW ItemV.wt (l.take i) : Int) - (ItemV.wt x : Nat) = left - l.length - (sumW ItemV.wt (l.take (i + 1)) : Int) := by omega
            dsimp only
            rw [← e3]
            rfl)⟩
        | (exfalso; omega)
        | exact congrArg iD (by rw [szR_lt (by omega)])
        | exact congrArg iD (by have e2 : l.take i = l := List.take_of_length_le (by omega); rw [e2] at hs ⊢; rw [szR_ge (by omega)]; omega)


set_option maxHeartbeats 400000 in
theorem c_laws_toItemS (l : List ItemV) (hw : wtL ItemV.wt l ≤ 1048576) (hok : ∀ v ∈ l, ItemV.ok v) : Contract Try.prog 33 [.d (lD ItemV.dat l)] (.one (.own ⟨120, 8, l.map ItemV.dat⟩)) := by
  have hlen : l.length ≤ 1048576 := Nat.le_trans wtL_len hw
  refine contract_by hma hTa Try.func33 (by kernel_rfl) (by kernel_rfl) ?_
  conv => whnf
  have e1 : (List.map ItemV.dat l).length = l.length := List.length_map _
  refine MkK_intro l.length (by omega) (by omega) (by omega) ?_
  conv => whnf
  refine LoopK_intro hma hTa [(0, .pl), (2, .pl), (3, .key 7), (4, .pl)] (fun i : Nat => ⟨[(0, .d (lD ItemV.dat l)), (2, .nil), (3, .av 7 l.length), (4, .d (iD i))], [(7, some ⟨120, 8, (l.take i).map ItemV.dat ++ List.replicate (l.length - i) (ItemV.z.dat)⟩)], []⟩) (fun i => i ≤ l.length) (fun i => l.length - i) (by kernel_rfl) ?_ ?_
  · conv => whnf
    exact ⟨0, by omega, rfl⟩
  · intro i hi
    conv => whnf
    refine brLt (fun h => ?_) (fun h => ?_) <;> conv => whnf
    · refine IxK_mapLt _ rfl (by omega) (fun x hx => ?_)
      conv => whnf
      refine CallK_intro (c_laws_toItem _ (hok _ (get_mem ‹_›))) ?_
      conv => whnf
      refine IxA_intro i rfl (by omega) ?_
      conv => whnf
      refine setK_intro (by rw [fill_len _ _ hi]; omega) (fill_step (f := ItemV.dat) hx).symm ?_
      conv => whnf
      refine WrK_i64 (by omega) (by omega) ?_
      conv => whnf
      exact ⟨i + 1, get_lt hx, (by show l.length - (i + 1) < l.length - i; omega), rfl⟩
    · have e2 : i = l.length := by omega
      subst e2
      rw [fill_end]
      exact ⟨rfl, rfl, e1.symm, rfl⟩


set_option maxHeartbeats 400000 in
theorem c_laws_eqItemS (l m : List ItemV) (hl : okL ItemV.ok l) (hm : okL ItemV.ok m) : Contract Try.prog 37 [.d (lD ItemV.dat l), .d (lD ItemV.dat m)] (.one (.d (bD (tr (l = m))))) := by
  refine contract_by hma hTa Try.func37 (by kernel_rfl) (by kernel_rfl) ?_
  obtain ⟨hlen, hok⟩ := hl
  obtain ⟨hlen2, hok2⟩ := hm
  conv => whnf
  have e1 : (List.map ItemV.dat l).length = l.length := List.length_map _
  have e2 : (List.map ItemV.dat m).length = m.length := List.length_map _
  refine brNEq (fun h => ?_) (fun h => ?_)
  rotate_left
  · conv => whnf
    exact bF (fun hp => by subst hp; omega)
  · conv => whnf
    refine LoopK_intro hma hTa [(0, .pl), (1, .pl), (4, .pl), (5, .pl)] (fun i : Nat => ⟨[(0, .d (lD ItemV.dat l)), (1, .d (lD ItemV.dat m)), (4, .d (bD false)), (5, .d (iD i))], [], []⟩) (fun i => i ≤ l.length ∧ l.take i = m.take i) (fun i => l.length - i) (by kernel_rfl) ?_ ?_
    · conv => whnf
      exact ⟨0, ⟨by omega, by simp⟩, rfl⟩
    · intro i ⟨hi, hs⟩
      conv => whnf
      repeat' first
        | (refine brLt (fun h => ?_) (fun h => ?_) <;> conv => whnf)
        | (refine brNTr (fun h => ?_) (fun h => ?_) <;> conv => whnf)
        | (refine brNEq (fun h => ?_) (fun h => ?_) <;> conv => whnf)
        | (refine brNStr (fun h => ?_) (fun h => ?_) <;> conv => whnf)
        | (refine WrK_i64 (by omega) (by omega) ?_; conv => whnf)
        | (refine IxK_mapLt _ rfl (by omega) (fun x hx => ?_); conv => whnf)
        | (refine CallK_intro (c_laws_eqItem _ _ (hok _ (get_mem ‹_›)) (hok2 _ (get_mem ‹_›))) ?_; conv => whnf)
      all_goals first
        | exact bT (by rwa [List.take_of_length_le (by omega), List.take_of_length_le (by omega)] at hs)
        | exact bF (fun hp => by subst hp; simp_all)
        | exact ⟨i + 1, ⟨by omega, by rw [take_snoc ‹l[i]? = some _›, take_snoc ‹m[i]? = some _›, hs]; simp_all⟩, (by show l.length - (i + 1) < l.length - i; omega), rfl⟩


theorem c_laws_szDemand (x : DemandV) (left : Int) (h0 : 0 ≤ left) (h1 : left ≤ 1048576) (hx : x.ok) : Contract Try.prog 79 [.d x.dat, .d (iD left)] (.one (.d (iD (szR left x.wt)))) := by
  refine contract_by hma hTa Try.func79 (by kernel_rfl) (by kernel_rfl) ?_
  obtain ⟨k0, k1, k2, k3, k4⟩ := hx
  unfold okS at k1
  generalize hres : szR left x.wt = res
  conv => whnf
  repeat' first
    | (refine brLt (fun h => ?_) (fun h => ?_) <;> conv => whnf)
    | (refine WrK_i64 (by omega) (by omega) ?_; conv => whnf)
  all_goals
    rw [← hres]
    first
    | (exfalso; omega)
    | exact congrArg iD (by rw [szR_lt (by unfold DemandV.wt; omega)])
    | exact congrArg iD (by rw [szR_ge (by unfold DemandV.wt; omega)]; unfold DemandV.wt; omega)


theorem c_laws_toDemand (x : DemandV) (hx : x.ok) : Contract Try.prog 81 [.d x.dat] (.one (.d x.dat)) := by
  refine contract_by hma hTa Try.func81 (by kernel_rfl) (by kernel_rfl) ?_
  obtain ⟨k0, k1, k2, k3, k4⟩ := hx
  conv => whnf
  exact rfl


theorem c_laws_eqDemand (x y : DemandV) (hx : x.ok) (hy : y.ok) : Contract Try.prog 82 [.d x.dat, .d y.dat] (.one (.d (bD (tr (x = y))))) := by
  refine contract_by hma hTa Try.func82 (by kernel_rfl) (by kernel_rfl) ?_
  obtain ⟨k0, k1, k2, k3, k4⟩ := hx
  obtain ⟨m0, m1, m2, m3, m4⟩ := hy
  conv => whnf
  repeat' first
    | (refine brLt (fun h => ?_) (fun h => ?_) <;> conv => whnf)
    | (refine brLe (fun h => ?_) (fun h => ?_) <;> conv => whnf)
    | (refine brEq (fun h => ?_) (fun h => ?_) <;> conv => whnf)
    | (refine brTr (fun h => ?_) (fun h => ?_) <;> conv => whnf)
    | (refine brNTr (fun h => ?_) (fun h => ?_) <;> conv => whnf)
    | (refine brNLt (fun h => ?_) (fun h => ?_) <;> conv => whnf)
    | (refine brNLe (fun h => ?_) (fun h => ?_) <;> conv => whnf)
    | (refine brNEq (fun h => ?_) (fun h => ?_) <;> conv => whnf)
    | (refine brStr (fun h => ?_) (fun h => ?_) <;> conv => whnf)
    | (refine brNStr (fun h => ?_) (fun h => ?_) <;> conv => whnf)
    | (refine brStrLt (fun h => ?_) (fun h => ?_) <;> conv => whnf)
    | (refine brNStrLt (fun h => ?_) (fun h => ?_) <;> conv => whnf)
    | (refine brNBEq (fun h => ?_) (fun h => ?_) <;> conv => whnf)
    | (refine brBEq (fun h => ?_) (fun h => ?_) <;> conv => whnf)
    | (refine WrK_i64 (by omega) (by omega) ?_; conv => whnf)
    | (refine takeK_full (by first | exact rfl | exact (List.length_map _).symm | exact List.length_map _ | omega) ?_; conv => whnf)
    | (refine StrK_intro _ rfl (by assumption) ?_; conv => whnf)
    | (refine IxK_map _ rfl (by assumption) ?_; conv => whnf)
    | (refine StrK_lt _ rfl (by omega) (fun b hb => ?_); conv => whnf)
    | (refine IxK_mapLt _ rfl (by (try simp only [List.length_map] at *); omega) (fun x hx => ?_); conv => whnf)
    | (refine IxK_mapI (by omega) (by (try simp only [List.length_map] at *); omega) (fun j x hj hx => ?_); conv => whnf)
    | (refine NeedK_intro (by omega) ?_; conv => whnf)
  all_goals first
    | exact bF (fun hp => by subst hp; simp_all)
    | exact bT (by cases x; cases y; simp_all)


set_option maxHeartbeats 400000 in
theorem c_laws_szDemandS (l : List DemandV) (left : Int) (h0 : 0 ≤ left) (h1 : left ≤ 1048576) (hl : okL DemandV.ok l) : Contract Try.prog 20 [.d (lD DemandV.dat l), .d (iD left)] (.one (.d (iD (szR left (wtL DemandV.wt l))))) := by
  refine contract_by hma hTa Try.func20 (by kernel_rfl) (by kernel_rfl) ?_
  obtain ⟨hlen, hok⟩ := hl
  have hw : wtL DemandV.wt l = l.length + sumW DemandV.wt l := rfl
  rw [hw]
  conv => whnf
  have e1 : (List.map DemandV.dat l).length = l.length := List.length_map _
  repeat' first
    | (refine brLt (fun h => ?_) (fun h => ?_) <;> conv => whnf)
    | (refine brLe (fun h => ?_) (fun h => ?_) <;> conv => whnf)
    | (refine brEq (fun h => ?_) (fun h => ?_) <;> conv => whnf)
    | (refine brTr (fun h => ?_) (fun h => ?_) <;> conv => whnf)
    | (refine brNTr (fun h => ?_) (fun h => ?_) <;> conv => whnf)
    | (refine brNLt (fun h => ?_) (fun h => ?_) <;> conv => whnf)
    | (refine brNLe (fun h => ?_) (fun h => ?_) <;> conv => whnf)
    | (refine brNEq (fun h => ?_) (fun h => ?_) <;> conv => whnf)
    | (refine brStr (fun h => ?_) (fun h => ?_) <;> conv => whnf)
    | (refine brNStr (fun h => ?_) (fun h => ?_) <;> conv => whnf)
    | (refine brStrLt (fun h => ?_) (fun h => ?_) <;> conv => whnf)
    | (refine brNStrLt (fun h => ?_) (fun h => ?_) <;> conv => whnf)
    | (refine brNBEq (fun h => ?_) (fun h => ?_) <;> conv => whnf)
    | (refine brBEq (fun h => ?_) (fun h => ?_) <;> conv => whnf)
    | (refine WrK_i64 (by omega) (by omega) ?_; conv => whnf)
    | (refine takeK_full (by first | exact rfl | exact (List.length_map _).symm | exact List.length_map _ | omega) ?_; conv => whnf)
    | (refine StrK_intro _ rfl (by assumption) ?_; conv => whnf)
    | (refine IxK_map _ rfl (by assumption) ?_; conv => whnf)
    | (refine StrK_lt _ rfl (by omega) (fun b hb => ?_); conv => whnf)
    | (refine IxK_mapLt _ rfl (by (try simp only [List.length_map] at *); omega) (fun x hx => ?_); conv => whnf)
    | (refine IxK_mapI (by omega) (by (try simp only [List.length_map] at *); omega) (fun j x hj hx => ?_); conv => whnf)
    | (refine NeedK_intro (by omega) ?_; conv => whnf)
  · exact congrArg iD (by rw [szR_lt (by omega)])
  · refine LoopK_intro hma hTa [(0, .pl), (1, .pl), (4, .pl), (5, .pl)] (fun i : Nat => ⟨[(0, .d (lD DemandV.dat l)), (1, .d (iD (left - l.length - sumW DemandV.wt (l.take i)))), (4, .d (iD 0)), (5, .d (iD i))], [], []⟩) (fun i => i ≤ l.length ∧ (sumW DemandV.wt (l.take i) : Int) ≤ left - l.length) (fun i => l.length - i) (by kernel_rfl) ?_ ?_
    · conv => whnf
      exact ⟨0, ⟨by omega, by simp [sumW]; omega⟩, by simp [sumW, e1]⟩
    · intro i ⟨hi, hs⟩
      conv => whnf
      repeat' first
        | (refine brLt (fun h => ?_) (fun h => ?_) <;> conv => whnf)
        | (refine WrK_i64 (by omega) (by omega) ?_; conv => whnf)
        | (refine IxK_mapLt _ rfl (by omega) (fun x hx => ?_); (conv => whnf); have hx1 := sumW_take (f := DemandV.wt) hx; have hx2 := sumW_take_le DemandV.wt l (i + 1); have hx3 := get_lt hx; have hx4 := hok _ (get_mem hx))
        | (refine CallK_sz (c_laws_szDemand _ _ (by omega) (by omega) (hok _ (get_mem ‹_›))) (fun hc => ?_) (fun hc => ?_) <;> conv => whnf)
      all_goals first
        | exact ⟨i + 1, ⟨by omega, by omega⟩, (by show l.length - (i + 1) < l.length - i; omega), (by
            have e3 : left - l.length - (sumW DemandV.wt (l.take i) : Int) - (DemandV.wt x : Nat) = left - l.length - (sumW DemandV.wt (l.take (i + 1)) : Int) := by omega
            dsimp only
            rw [← e3]
            rfl)⟩
        | (exfalso; omega)
        | exact congrArg iD (by rw [szR_lt (by omega)])
        | exact congrArg iD (by have e2 : l.take i = l := List.take_of_length_le (by omega); rw [e2] at hs ⊢; rw [szR_ge (by omega)]; omega)


set_option maxHeartbeats 400000 in
theorem c_laws_toDemandS (l : List DemandV) (hw : wtL DemandV.wt l ≤ 1048576) (hok : ∀ v ∈ l, DemandV.ok v) : Contract Try.prog 22 [.d (lD DemandV.dat l)] (.one (.own ⟨28, 5, l.map DemandV.dat⟩)) := by
  have hlen : l.length ≤ 1048576 := Nat.le_trans wtL_len hw
  refine contract_by hma hTa Try.func22 (by kernel_rfl) (by kernel_rfl) ?_
  conv => whnf
  have e1 : (List.map DemandV.dat l).length = l.length := List.length_map _
  refine MkK_intro l.length (by omega) (by omega) (by omega) ?_
  conv => whnf
  refine LoopK_intro hma hTa [(0, .pl), (2, .pl), (3, .key 7), (4, .pl)] (fun i : Nat => ⟨[(0, .d (lD DemandV.dat l)), (2, .nil), (3, .av 7 l.length), (4, .d (iD i))], [(7, some ⟨28, 5, (l.take i).map DemandV.dat ++ List.replicate (l.length - i) (DemandV.z.dat)⟩)], []⟩) (fun i => i ≤ l.length) (fun i => l.length - i) (by kernel_rfl) ?_ ?_
  · conv => whnf
    exact ⟨0, by omega, rfl⟩
  · intro i hi
    conv => whnf
    refine brLt (fun h => ?_) (fun h => ?_) <;> conv => whnf
    · refine IxK_mapLt _ rfl (by omega) (fun x hx => ?_)
      conv => whnf
      refine CallK_intro (c_laws_toDemand _ (hok _ (get_mem ‹_›))) ?_
      conv => whnf
      refine IxA_intro i rfl (by omega) ?_
      conv => whnf
      refine setK_intro (by rw [fill_len _ _ hi]; omega) (fill_step (f := DemandV.dat) hx).symm ?_
      conv => whnf
      refine WrK_i64 (by omega) (by omega) ?_
      conv => whnf
      exact ⟨i + 1, get_lt hx, (by show l.length - (i + 1) < l.length - i; omega), rfl⟩
    · have e2 : i = l.length := by omega
      subst e2
      rw [fill_end]
      exact ⟨rfl, rfl, e1.symm, rfl⟩


set_option maxHeartbeats 400000 in
theorem c_laws_eqDemandS (l m : List DemandV) (hl : okL DemandV.ok l) (hm : okL DemandV.ok m) : Contract Try.prog 23 [.d (lD DemandV.dat l), .d (lD DemandV.dat m)] (.one (.d (bD (tr (l = m))))) := by
  refine contract_by hma hTa Try.func23 (by kernel_rfl) (by kernel_rfl) ?_
  obtain ⟨hlen, hok⟩ := hl
  obtain ⟨hlen2, hok2⟩ := hm
  conv => whnf
  have e1 : (List.map DemandV.dat l).length = l.length := List.length_map _
  have e2 : (List.map DemandV.dat m).length = m.length := List.length_map _
  refine brNEq (fun h => ?_) (fun h => ?_)
  rotate_left
  · conv => whnf
    exact bF (fun hp => by subst hp; omega)
  · conv => whnf
    refine LoopK_intro hma hTa [(0, .pl), (1, .pl), (4, .pl), (5, .pl)] (fun i : Nat => ⟨[(0, .d (lD DemandV.dat l)), (1, .d (lD DemandV.dat m)), (4, .d (bD false)), (5, .d (iD i))], [], []⟩) (fun i => i ≤ l.length ∧ l.take i = m.take i) (fun i => l.length - i) (by kernel_rfl) ?_ ?_
    · conv => whnf
      exact ⟨0, ⟨by omega, by simp⟩, rfl⟩
    · intro i ⟨hi, hs⟩
      conv => whnf
      repeat' first
        | (refine brLt (fun h => ?_) (fun h => ?_) <;> conv => whnf)
        | (refine brNTr (fun h => ?_) (fun h => ?_) <;> conv => whnf)
        | (refine brNEq (fun h => ?_) (fun h => ?_) <;> conv => whnf)
        | (refine brNStr (fun h => ?_) (fun h => ?_) <;> conv => whnf)
        | (refine WrK_i64 (by omega) (by omega) ?_; conv => whnf)
        | (refine IxK_mapLt _ rfl (by omega) (fun x hx => ?_); conv => whnf)
        | (refine CallK_intro (c_laws_eqDemand _ _ (hok _ (get_mem ‹_›)) (hok2 _ (get_mem ‹_›))) ?_; conv => whnf)
      all_goals first
        | exact bT (by rwa [List.take_of_length_le (by omega), List.take_of_length_le (by omega)] at hs)
        | exact bF (fun hp => by subst hp; simp_all)
        | exact ⟨i + 1, ⟨by omega, by rw [take_snoc ‹l[i]? = some _›, take_snoc ‹m[i]? = some _›, hs]; simp_all⟩, (by show l.length - (i + 1) < l.length - i; omega), rfl⟩


theorem c_laws_szPick (x : PickV) (left : Int) (h0 : 0 ≤ left) (h1 : left ≤ 1048576) (hx : x.ok) : Contract Try.prog 101 [.d x.dat, .d (iD left)] (.one (.d (iD (szR left x.wt)))) := by
  refine contract_by hma hTa Try.func101 (by kernel_rfl) (by kernel_rfl) ?_
  obtain ⟨k0, k1⟩ := hx
  unfold okS at k0; unfold okS at k1
  generalize hres : szR left x.wt = res
  conv => whnf
  repeat' first
    | (refine brLt (fun h => ?_) (fun h => ?_) <;> conv => whnf)
    | (refine WrK_i64 (by omega) (by omega) ?_; conv => whnf)
  all_goals
    rw [← hres]
    first
    | (exfalso; omega)
    | exact congrArg iD (by rw [szR_lt (by unfold PickV.wt; omega)])
    | exact congrArg iD (by rw [szR_ge (by unfold PickV.wt; omega)]; unfold PickV.wt; omega)


theorem c_laws_toPick (x : PickV) (hx : x.ok) : Contract Try.prog 103 [.d x.dat] (.one (.d x.dat)) := by
  refine contract_by hma hTa Try.func103 (by kernel_rfl) (by kernel_rfl) ?_
  obtain ⟨k0, k1⟩ := hx
  conv => whnf
  exact rfl


theorem c_laws_eqPick (x y : PickV) (hx : x.ok) (hy : y.ok) : Contract Try.prog 105 [.d x.dat, .d y.dat] (.one (.d (bD (tr (x = y))))) := by
  refine contract_by hma hTa Try.func105 (by kernel_rfl) (by kernel_rfl) ?_
  obtain ⟨k0, k1⟩ := hx
  obtain ⟨m0, m1⟩ := hy
  conv => whnf
  repeat' first
    | (refine brLt (fun h => ?_) (fun h => ?_) <;> conv => whnf)
    | (refine brLe (fun h => ?_) (fun h => ?_) <;> conv => whnf)
    | (refine brEq (fun h => ?_) (fun h => ?_) <;> conv => whnf)
    | (refine brTr (fun h => ?_) (fun h => ?_) <;> conv => whnf)
    | (refine brNTr (fun h => ?_) (fun h => ?_) <;> conv => whnf)
    | (refine brNLt (fun h => ?_) (fun h => ?_) <;> conv => whnf)
    | (refine brNLe (fun h => ?_) (fun h => ?_) <;> conv => whnf)
    | (refine brNEq (fun h => ?_) (fun h => ?_) <;> conv => whnf)
    | (refine brStr (fun h => ?_) (fun h => ?_) <;> conv => whnf)
    | (refine brNStr (fun h => ?_) (fun h => ?_) <;> conv => whnf)
    | (refine brStrLt (fun h => ?_) (fun h => ?_) <;> conv => whnf)
    | (refine brNStrLt (fun h => ?_) (fun h => ?_) <;> conv => whnf)
    | (refine brNBEq (fun h => ?_) (fun h => ?_) <;> conv => whnf)
    | (refine brBEq (fun h => ?_) (fun h => ?_) <;> conv => whnf)
    | (refine WrK_i64 (by omega) (by omega) ?_; conv => whnf)
    | (refine takeK_full (by first | exact rfl | exact (List.length_map _).symm | exact List.length_map _ | omega) ?_; conv => whnf)
    | (refine StrK_intro _ rfl (by assumption) ?_; conv => whnf)
    | (refine IxK_map _ rfl (by assumption) ?_; conv => whnf)
    | (refine StrK_lt _ rfl (by omega) (fun b hb => ?_); conv => whnf)
    | (refine IxK_mapLt _ rfl (by (try simp only [List.length_map] at *); omega) (fun x hx => ?_); conv => whnf)
    | (refine IxK_mapI (by omega) (by (try simp only [List.length_map] at *); omega) (fun j x hj hx => ?_); conv => whnf)
    | (refine NeedK_intro (by omega) ?_; conv => whnf)
  all_goals first
    | exact bF (fun hp => by subst hp; simp_all)
    | exact bT (by cases x; cases y; simp_all)


set_option maxHeartbeats 400000 in
theorem c_laws_szPickS (l : List PickV) (left : Int) (h0 : 0 ≤ left) (h1 : left ≤ 1048576) (hl : okL PickV.ok l) : Contract Try.prog 43 [.d (lD PickV.dat l), .d (iD left)] (.one (.d (iD (szR left (wtL PickV.wt l))))) := by
  refine contract_by hma hTa Try.func43 (by kernel_rfl) (by kernel_rfl) ?_
  obtain ⟨hlen, hok⟩ := hl
  have hw : wtL PickV.wt l = l.length + sumW PickV.wt l := rfl
  rw [hw]
  conv => whnf
  have e1 : (List.map PickV.dat l).length = l.length := List.length_map _
  repeat' first
    | (refine brLt (fun h => ?_) (fun h => ?_) <;> conv => whnf)
    | (refine brLe (fun h => ?_) (fun h => ?_) <;> conv => whnf)
    | (refine brEq (fun h => ?_) (fun h => ?_) <;> conv => whnf)
    | (refine brTr (fun h => ?_) (fun h => ?_) <;> conv => whnf)
    | (refine brNTr (fun h => ?_) (fun h => ?_) <;> conv => whnf)
    | (refine brNLt (fun h => ?_) (fun h => ?_) <;> conv => whnf)
    | (refine brNLe (fun h => ?_) (fun h => ?_) <;> conv => whnf)
    | (refine brNEq (fun h => ?_) (fun h => ?_) <;> conv => whnf)
    | (refine brStr (fun h => ?_) (fun h => ?_) <;> conv => whnf)
    | (refine brNStr (fun h => ?_) (fun h => ?_) <;> conv => whnf)
    | (refine brStrLt (fun h => ?_) (fun h => ?_) <;> conv => whnf)
    | (refine brNStrLt (fun h => ?_) (fun h => ?_) <;> conv => whnf)
    | (refine brNBEq (fun h => ?_) (fun h => ?_) <;> conv => whnf)
    | (refine brBEq (fun h => ?_) (fun h => ?_) <;> conv => whnf)
    | (refine WrK_i64 (by omega) (by omega) ?_; conv => whnf)
    | (refine takeK_full (by first | exact rfl | exact (List.length_map _).symm | exact List.length_map _ | omega) ?_; conv => whnf)
    | (refine StrK_intro _ rfl (by assumption) ?_; conv => whnf)
    | (refine IxK_map _ rfl (by assumption) ?_; conv => whnf)
    | (refine StrK_lt _ rfl (by omega) (fun b hb => ?_); conv => whnf)
    | (refine IxK_mapLt _ rfl (by (try simp only [List.length_map] at *); omega) (fun x hx => ?_); conv => whnf)
    | (refine IxK_mapI (by omega) (by (try simp only [List.length_map] at *); omega) (fun j x hj hx => ?_); conv => whnf)
    | (refine NeedK_intro (by omega) ?_; conv => whnf)
  · exact congrArg iD (by rw [szR_lt (by omega)])
  · refine LoopK_intro hma hTa [(0, .pl), (1, .pl), (4, .pl), (5, .pl)] (fun i : Nat => ⟨[(0, .d (lD PickV.dat l)), (1, .d (iD (left - l.length - sumW PickV.wt (l.take i)))), (4, .d (iD 0)), (5, .d (iD i))], [], []⟩) (fun i => i ≤ l.length ∧ (sumW PickV.wt (l.take i) : Int) ≤ left - l.length) (fun i => l.length - i) (by kernel_rfl) ?_ ?_
    · conv => whnf
      exact ⟨0, ⟨by omega, by simp [sumW]; omega⟩, by simp [sumW, e1]⟩
    · intro i ⟨hi, hs⟩
      conv => whnf
      repeat' first
        | (refine brLt (fun h => ?_) (fun h => ?_) <;> conv => whnf)
        | (refine WrK_i64 (by omega) (by omega) ?_; conv => whnf)
        | (refine IxK_mapLt _ rfl (by omega) (fun x hx => ?_); (conv => whnf); have hx1 := sumW_take (f := PickV.wt) hx; have hx2 := sumW_take_le PickV.wt l (i + 1); have hx3 := get_lt hx; have hx4 := hok _ (get_mem hx))
        | (refine CallK_sz (c_laws_szPick _ _ (by omega) (by omega) (hok _ (get_mem ‹_›))) (fun hc => ?_) (fun hc => ?_) <;> conv => whnf)
      all_goals first
        | exact ⟨i + 1, ⟨by omega, by omega⟩, (by show l.length - (i + 1) < l.length - i; omega), (by
            have e3 : left - l.length - (sumW PickV.wt (l.take i) : Int) - (PickV.wt x : Nat) = left - l.length - (sumW PickV.wt (l.take (i + 1)) : Int) := by omega
            dsimp only
            rw [← e3]
            rfl)⟩
        | (exfalso; omega)
        | exact congrArg iD (by rw [szR_lt (by omega)])
        | exact congrArg iD (by have e2 : l.take i = l := List.take_of_length_le (by omega); rw [e2] at hs ⊢; rw [szR_ge (by omega)]; omega)


set_option maxHeartbeats 400000 in
theorem c_laws_toPickS (l : List PickV) (hw : wtL PickV.wt l ≤ 1048576) (hok : ∀ v ∈ l, PickV.ok v) : Contract Try.prog 45 [.d (lD PickV.dat l)] (.one (.own ⟨134, 2, l.map PickV.dat⟩)) := by
  have hlen : l.length ≤ 1048576 := Nat.le_trans wtL_len hw
  refine contract_by hma hTa Try.func45 (by kernel_rfl) (by kernel_rfl) ?_
  conv => whnf
  have e1 : (List.map PickV.dat l).length = l.length := List.length_map _
  refine MkK_intro l.length (by omega) (by omega) (by omega) ?_
  conv => whnf
  refine LoopK_intro hma hTa [(0, .pl), (2, .pl), (3, .key 7), (4, .pl)] (fun i : Nat => ⟨[(0, .d (lD PickV.dat l)), (2, .nil), (3, .av 7 l.length), (4, .d (iD i))], [(7, some ⟨134, 2, (l.take i).map PickV.dat ++ List.replicate (l.length - i) (PickV.z.dat)⟩)], []⟩) (fun i => i ≤ l.length) (fun i => l.length - i) (by kernel_rfl) ?_ ?_
  · conv => whnf
    exact ⟨0, by omega, rfl⟩
  · intro i hi
    conv => whnf
    refine brLt (fun h => ?_) (fun h => ?_) <;> conv => whnf
    · refine IxK_mapLt _ rfl (by omega) (fun x hx => ?_)
      conv => whnf
      refine CallK_intro (c_laws_toPick _ (hok _ (get_mem ‹_›))) ?_
      conv => whnf
      refine IxA_intro i rfl (by omega) ?_
      conv => whnf
      refine setK_intro (by rw [fill_len _ _ hi]; omega) (fill_step (f := PickV.dat) hx).symm ?_
      conv => whnf
      refine WrK_i64 (by omega) (by omega) ?_
      conv => whnf
      exact ⟨i + 1, get_lt hx, (by show l.length - (i + 1) < l.length - i; omega), rfl⟩
    · have e2 : i = l.length := by omega
      subst e2
      rw [fill_end]
      exact ⟨rfl, rfl, e1.symm, rfl⟩


set_option maxHeartbeats 400000 in
theorem c_laws_eqPickS (l m : List PickV) (hl : okL PickV.ok l) (hm : okL PickV.ok m) : Contract Try.prog 48 [.d (lD PickV.dat l), .d (lD PickV.dat m)] (.one (.d (bD (tr (l = m))))) := by
  refine contract_by hma hTa Try.func48 (by kernel_rfl) (by kernel_rfl) ?_
  obtain ⟨hlen, hok⟩ := hl
  obtain ⟨hlen2, hok2⟩ := hm
  conv => whnf
  have e1 : (List.map PickV.dat l).length = l.length := List.length_map _
  have e2 : (List.map PickV.dat m).length = m.length := List.length_map _
  refine brNEq (fun h => ?_) (fun h => ?_)
  rotate_left
  · conv => whnf
    exact bF (fun hp => by subst hp; omega)
  · conv => whnf
    refine LoopK_intro hma hTa [(0, .pl), (1, .pl), (4, .pl), (5, .pl)] (fun i : Nat => ⟨[(0, .d (lD PickV.dat l)), (1, .d (lD PickV.dat m)), (4, .d (bD false)), (5, .d (iD i))], [], []⟩) (fun i => i ≤ l.length ∧ l.take i = m.take i) (fun i => l.length - i) (by kernel_rfl) ?_ ?_
    · conv => whnf
      exact ⟨0, ⟨by omega, by simp⟩, rfl⟩
    · intro i ⟨hi, hs⟩
      conv => whnf
      repeat' first
        | (refine brLt (fun h => ?_) (fun h => ?_) <;> conv => whnf)
        | (refine brNTr (fun h => ?_) (fun h => ?_) <;> conv => whnf)
        | (refine brNEq (fun h => ?_) (fun h => ?_) <;> conv => whnf)
        | (refine brNStr (fun h => ?_) (fun h => ?_) <;> conv => whnf)
        | (refine WrK_i64 (by omega) (by omega) ?_; conv => whnf)
        | (refine IxK_mapLt _ rfl (by omega) (fun x hx => ?_); conv => whnf)
        | (refine CallK_intro (c_laws_eqPick _ _ (hok _ (get_mem ‹_›)) (hok2 _ (get_mem ‹_›))) ?_; conv => whnf)
      all_goals first
        | exact bT (by rwa [List.take_of_length_le (by omega), List.take_of_length_le (by omega)] at hs)
        | exact bF (fun hp => by subst hp; simp_all)
        | exact ⟨i + 1, ⟨by omega, by rw [take_snoc ‹l[i]? = some _›, take_snoc ‹m[i]? = some _›, hs]; simp_all⟩, (by show l.length - (i + 1) < l.length - i; omega), rfl⟩


theorem c_laws_szCondNode (x : NodeV) (left : Int) (h0 : 0 ≤ left) (h1 : left ≤ 1048576) (hx : x.ok) : Contract Try.prog 161 [.d x.dat, .d (iD left)] (.one (.d (iD (szR left x.wt)))) := by
  refine contract_by hma hTa Try.func161 (by kernel_rfl) (by kernel_rfl) ?_
  obtain ⟨k0, k1, k2⟩ := hx
  unfold okS at k1; unfold okS at k2
  generalize hres : szR left x.wt = res
  conv => whnf
  repeat' first
    | (refine brLt (fun h => ?_) (fun h => ?_) <;> conv => whnf)
    | (refine WrK_i64 (by omega) (by omega) ?_; conv => whnf)
  all_goals
    rw [← hres]
    first
    | (exfalso; omega)
    | exact congrArg iD (by rw [szR_lt (by unfold NodeV.wt; omega)])
    | exact congrArg iD (by rw [szR_ge (by unfold NodeV.wt; omega)]; unfold NodeV.wt; omega)


theorem c_laws_toCondNode (x : NodeV) (hx : x.ok) : Contract Try.prog 163 [.d x.dat] (.one (.d x.dat)) := by
  refine contract_by hma hTa Try.func163 (by kernel_rfl) (by kernel_rfl) ?_
  obtain ⟨k0, k1, k2⟩ := hx
  conv => whnf
  exact rfl


theorem c_laws_eqCondNode (x y : NodeV) (hx : x.ok) (hy : y.ok) : Contract Try.prog 166 [.d x.dat, .d y.dat] (.one (.d (bD (tr (x = y))))) := by
  refine contract_by hma hTa Try.func166 (by kernel_rfl) (by kernel_rfl) ?_
  obtain ⟨k0, k1, k2⟩ := hx
  obtain ⟨m0, m1, m2⟩ := hy
  conv => whnf
  repeat' first
    | (refine brLt (fun h => ?_) (fun h => ?_) <;> conv => whnf)
    | (refine brLe (fun h => ?_) (fun h => ?_) <;> conv => whnf)
    | (refine brEq (fun h => ?_) (fun h => ?_) <;> conv => whnf)
    | (refine brTr (fun h => ?_) (fun h => ?_) <;> conv => whnf)
    | (refine brNTr (fun h => ?_) (fun h => ?_) <;> conv => whnf)
    | (refine brNLt (fun h => ?_) (fun h => ?_) <;> conv => whnf)
    | (refine brNLe (fun h => ?_) (fun h => ?_) <;> conv => whnf)
    | (refine brNEq (fun h => ?_) (fun h => ?_) <;> conv => whnf)
    | (refine brStr (fun h => ?_) (fun h => ?_) <;> conv => whnf)
    | (refine brNStr (fun h => ?_) (fun h => ?_) <;> conv => whnf)
    | (refine brStrLt (fun h => ?_) (fun h => ?_) <;> conv => whnf)
    | (refine brNStrLt (fun h => ?_) (fun h => ?_) <;> conv => whnf)
    | (refine brNBEq (fun h => ?_) (fun h => ?_) <;> conv => whnf)
    | (refine brBEq (fun h => ?_) (fun h => ?_) <;> conv => whnf)
    | (refine WrK_i64 (by omega) (by omega) ?_; conv => whnf)
    | (refine takeK_full (by first | exact rfl | exact (List.length_map _).symm | exact List.length_map _ | omega) ?_; conv => whnf)
    | (refine StrK_intro _ rfl (by assumption) ?_; conv => whnf)
    | (refine IxK_map _ rfl (by assumption) ?_; conv => whnf)
    | (refine StrK_lt _ rfl (by omega) (fun b hb => ?_); conv => whnf)
    | (refine IxK_mapLt _ rfl (by (try simp only [List.length_map] at *); omega) (fun x hx => ?_); conv => whnf)
    | (refine IxK_mapI (by omega) (by (try simp only [List.length_map] at *); omega) (fun j x hj hx => ?_); conv => whnf)
    | (refine NeedK_intro (by omega) ?_; conv => whnf)
  all_goals first
    | exact bF (fun hp => by subst hp; simp_all)
    | exact bT (by cases x; cases y; simp_all)


set_option maxHeartbeats 400000 in
theorem c_laws_szCondNodeS (l : List NodeV) (left : Int) (h0 : 0 ≤ left) (h1 : left ≤ 1048576) (hl : okL NodeV.ok l) : Contract Try.prog 140 [.d (lD NodeV.dat l), .d (iD left)] (.one (.d (iD (szR left (wtL NodeV.wt l))))) := by
  refine contract_by hma hTa Try.func140 (by kernel_rfl) (by kernel_rfl) ?_
  obtain ⟨hlen, hok⟩ := hl
  have hw : wtL NodeV.wt l = l.length + sumW NodeV.wt l := rfl
  rw [hw]
  conv => whnf
  have e1 : (List.map NodeV.dat l).length = l.length := List.length_map _
  repeat' first
    | (refine brLt (fun h => ?_) (fun h => ?_) <;> conv => whnf)
    | (refine brLe (fun h => ?_) (fun h => ?_) <;> conv => whnf)
    | (refine brEq (fun h => ?_) (fun h => ?_) <;> conv => whnf)
    | (refine brTr (fun h => ?_) (fun h => ?_) <;> conv => whnf)
    | (refine brNTr (fun h => ?_) (fun h => ?_) <;> conv => whnf)
    | (refine brNLt (fun h => ?_) (fun h => ?_) <;> conv => whnf)
    | (refine brNLe (fun h => ?_) (fun h => ?_) <;> conv => whnf)
    | (refine brNEq (fun h => ?_) (fun h => ?_) <;> conv => whnf)
    | (refine brStr (fun h => ?_) (fun h => ?_) <;> conv => whnf)
    | (refine brNStr (fun h => ?_) (fun h => ?_) <;> conv => whnf)
    | (refine brStrLt (fun h => ?_) (fun h => ?_) <;> conv => whnf)
    | (refine brNStrLt (fun h => ?_) (fun h => ?_) <;> conv => whnf)
    | (refine brNBEq (fun h => ?_) (fun h => ?_) <;> conv => whnf)
    | (refine brBEq (fun h => ?_) (fun h => ?_) <;> conv => whnf)
    | (refine WrK_i64 (by omega) (by omega) ?_; conv => whnf)
    | (refine takeK_full (by first | exact rfl | exact (List.length_map _).symm | exact List.length_map _ | omega) ?_; conv => whnf)
    | (refine StrK_intro _ rfl (by assumption) ?_; conv => whnf)
    | (refine IxK_map _ rfl (by assumption) ?_; conv => whnf)
    | (refine StrK_lt _ rfl (by omega) (fun b hb => ?_); conv => whnf)
    | (refine IxK_mapLt _ rfl (by (try simp only [List.length_map] at *); omega) (fun x hx => ?_); conv => whnf)
    | (refine IxK_mapI (by omega) (by (try simp only [List.length_map] at *); omega) (fun j x hj hx => ?_); conv => whnf)
    | (refine NeedK_intro (by omega) ?_; conv => whnf)
  · exact congrArg iD (by rw [szR_lt (by omega)])
  · refine LoopK_intro hma hTa [(0, .pl), (1, .pl), (4, .pl), (5, .pl)] (fun i : Nat => ⟨[(0, .d (lD NodeV.dat l)), (1, .d (iD (left - l.length - sumW NodeV.wt (l.take i)))), (4, .d (iD 0)), (5, .d (iD i))], [], []⟩) (fun i => i ≤ l.length ∧ (sumW NodeV.wt (l.take i) : Int) ≤ left - l.length) (fun i => l.length - i) (by kernel_rfl) ?_ ?_
    · conv => whnf
      exact ⟨0, ⟨by omega, by simp [sumW]; omega⟩, by simp [sumW, e1]⟩
    · intro i ⟨hi, hs⟩
      conv => whnf
      repeat' first
        | (refine brLt (fun h => ?_) (fun h => ?_) <;> conv => whnf)
        | (refine WrK_i64 (by omega) (by omega) ?_; conv => whnf)
        | (refine IxK_mapLt _ rfl (by omega) (fun x hx => ?_); (conv => whnf); have hx1 := sumW_take (f := NodeV.wt) hx; have hx2 := sumW_take_le NodeV.wt l (i + 1); have hx3 := get_lt hx; have hx4 := hok _ (get_mem hx))
        | (refine CallK_sz (c_laws_szCondNode _ _ (by omega) (by omega) (hok _ (get_mem ‹_›))) (fun hc => ?_) (fun hc => ?_) <;> conv => whnf)
      all_goals first
        | exact ⟨i + 1, ⟨by omega, by omega⟩, (by show l.length - (i + 1) < l.length - i; omega), (by
            have e3 : left - l.length - (sumW NodeV.wt (l.take i) : Int) - (NodeV.wt x : Nat) = left - l.length - (sumW NodeV.wt (l.take (i + 1)) : Int) := by omega
            dsimp only
            rw [← e3]
            rfl)⟩
        | (exfalso; omega)
        | exact congrArg iD (by rw [szR_lt (by omega)])
        | exact congrArg iD (by have e2 : l.take i = l := List.take_of_length_le (by omega); rw [e2] at hs ⊢; rw [szR_ge (by omega)]; omega)


set_option maxHeartbeats 400000 in
theorem c_laws_toCondNodeS (l : List NodeV) (hw : wtL NodeV.wt l ≤ 1048576) (hok : ∀ v ∈ l, NodeV.ok v) : Contract Try.prog 143 [.d (lD NodeV.dat l)] (.one (.own ⟨176, 3, l.map NodeV.dat⟩)) := by
  have hlen : l.length ≤ 1048576 := Nat.le_trans wtL_len hw
  refine contract_by hma hTa Try.func143 (by kernel_rfl) (by kernel_rfl) ?_
  conv => whnf
  have e1 : (List.map NodeV.dat l).length = l.length := List.length_map _
  refine MkK_intro l.length (by omega) (by omega) (by omega) ?_
  conv => whnf
  refine LoopK_intro hma hTa [(0, .pl), (2, .pl), (3, .key 7), (4, .pl)] (fun i : Nat => ⟨[(0, .d (lD NodeV.dat l)), (2, .nil), (3, .av 7 l.length), (4, .d (iD i))], [(7, some ⟨176, 3, (l.take i).map NodeV.dat ++ List.replicate (l.length - i) (NodeV.z.dat)⟩)], []⟩) (fun i => i ≤ l.length) (fun i => l.length - i) (by kernel_rfl) ?_ ?_
  · conv => whnf
    exact ⟨0, by omega, rfl⟩
  · intro i hi
    conv => whnf
    refine brLt (fun h => ?_) (fun h => ?_) <;> conv => whnf
    · refine IxK_mapLt _ rfl (by omega) (fun x hx => ?_)
      conv => whnf
      refine CallK_intro (c_laws_toCondNode _ (hok _ (get_mem ‹_›))) ?_
      conv => whnf
      refine IxA_intro i rfl (by omega) ?_
      conv => whnf
      refine setK_intro (by rw [fill_len _ _ hi]; omega) (fill_step (f := NodeV.dat) hx).symm ?_
      conv => whnf
      refine WrK_i64 (by omega) (by omega) ?_
      conv => whnf
      exact ⟨i + 1, get_lt hx, (by show l.length - (i + 1) < l.length - i; omega), rfl⟩
    · have e2 : i = l.length := by omega
      subst e2
      rw [fill_end]
      exact ⟨rfl, rfl, e1.symm, rfl⟩


set_option maxHeartbeats 400000 in
theorem c_laws_eqCondNodeS (l m : List NodeV) (hl : okL NodeV.ok l) (hm : okL NodeV.ok m) : Contract Try.prog 146 [.d (lD NodeV.dat l), .d (lD NodeV.dat m)] (.one (.d (bD (tr (l = m))))) := by
  refine contract_by hma hTa Try.func146 (by kernel_rfl) (by kernel_rfl) ?_
  obtain ⟨hlen, hok⟩ := hl
  obtain ⟨hlen2, hok2⟩ := hm
  conv => whnf
  have e1 : (List.map NodeV.dat l).length = l.length := List.length_map _
  have e2 : (List.map NodeV.dat m).length = m.length := List.length_map _
  refine brNEq (fun h => ?_) (fun h => ?_)
  rotate_left
  · conv => whnf
    exact bF (fun hp => by subst hp; omega)
  · conv => whnf
    refine LoopK_intro hma hTa [(0, .pl), (1, .pl), (4, .pl), (5, .pl)] (fun i : Nat => ⟨[(0, .d (lD NodeV.dat l)), (1, .d (lD NodeV.dat m)), (4, .d (bD false)), (5, .d (iD i))], [], []⟩) (fun i => i ≤ l.length ∧ l.take i = m.take i) (fun i => l.length - i) (by kernel_rfl) ?_ ?_
    · conv => whnf
      exact ⟨0, ⟨by omega, by simp⟩, rfl⟩
    · intro i ⟨hi, hs⟩
      conv => whnf
      repeat' first
        | (refine brLt (fun h => ?_) (fun h => ?_) <;> conv => whnf)
        | (refine brNTr (fun h => ?_) (fun h => ?_) <;> conv => whnf)
        | (refine brNEq (fun h => ?_) (fun h => ?_) <;> conv => whnf)
        | (refine brNStr (fun h => ?_) (fun h => ?_) <;> conv => whnf)
        | (refine WrK_i64 (by omega) (by omega) ?_; conv => whnf)
        | (refine IxK_mapLt _ rfl (by omega) (fun x hx => ?_); conv => whnf)
        | (refine CallK_intro (c_laws_eqCondNode _ _ (hok _ (get_mem ‹_›)) (hok2 _ (get_mem ‹_›))) ?_; conv => whnf)
      all_goals first
        | exact bT (by rwa [List.take_of_length_le (by omega), List.take_of_length_le (by omega)] at hs)
        | exact bF (fun hp => by subst hp; simp_all)
        | exact ⟨i + 1, ⟨by omega, by rw [take_snoc ‹l[i]? = some _›, take_snoc ‹m[i]? = some _›, hs]; simp_all⟩, (by show l.length - (i + 1) < l.length - i; omega), rfl⟩


set_option maxHeartbeats 400000 in
theorem c_laws_szStringS (l : List ByteArray) (left : Int) (h0 : 0 ≤ left) (h1 : left ≤ 1048576) (hl : okL okS l) : Contract Try.prog 168 [.d (lD sD l), .d (iD left)] (.one (.d (iD (szR left (wtL ByteArray.size l))))) := by
  refine contract_by hma hTa Try.func168 (by kernel_rfl) (by kernel_rfl) ?_
  obtain ⟨hlen, hok⟩ := hl
  have hw : wtL ByteArray.size l = l.length + sumW ByteArray.size l := rfl
  rw [hw]
  conv => whnf
  have e1 : (List.map sD l).length = l.length := List.length_map _
  repeat' first
    | (refine brLt (fun h => ?_) (fun h => ?_) <;> conv => whnf)
    | (refine brLe (fun h => ?_) (fun h => ?_) <;> conv => whnf)
    | (refine brEq (fun h => ?_) (fun h => ?_) <;> conv => whnf)
    | (refine brTr (fun h => ?_) (fun h => ?_) <;> conv => whnf)
    | (refine brNTr (fun h => ?_) (fun h => ?_) <;> conv => whnf)
    | (refine brNLt (fun h => ?_) (fun h => ?_) <;> conv => whnf)
    | (refine brNLe (fun h => ?_) (fun h => ?_) <;> conv => whnf)
    | (refine brNEq (fun h => ?_) (fun h => ?_) <;> conv => whnf)
    | (refine brStr (fun h => ?_) (fun h => ?_) <;> conv => whnf)
    | (refine brNStr (fun h => ?_) (fun h => ?_) <;> conv => whnf)
    | (refine brStrLt (fun h => ?_) (fun h => ?_) <;> conv => whnf)
    | (refine brNStrLt (fun h => ?_) (fun h => ?_) <;> conv => whnf)
    | (refine brNBEq (fun h => ?_) (fun h => ?_) <;> conv => whnf)
    | (refine brBEq (fun h => ?_) (fun h => ?_) <;> conv => whnf)
    | (refine WrK_i64 (by omega) (by omega) ?_; conv => whnf)
    | (refine takeK_full (by first | exact rfl | exact (List.length_map _).symm | exact List.length_map _ | omega) ?_; conv => whnf)
    | (refine StrK_intro _ rfl (by assumption) ?_; conv => whnf)
    | (refine IxK_map _ rfl (by assumption) ?_; conv => whnf)
    | (refine StrK_lt _ rfl (by omega) (fun b hb => ?_); conv => whnf)
    | (refine IxK_mapLt _ rfl (by (try simp only [List.length_map] at *); omega) (fun x hx => ?_); conv => whnf)
    | (refine IxK_mapI (by omega) (by (try simp only [List.length_map] at *); omega) (fun j x hj hx => ?_); conv => whnf)
    | (refine NeedK_intro (by omega) ?_; conv => whnf)
  · exact congrArg iD (by rw [szR_lt (by omega)])
  · refine LoopK_intro hma hTa [(0, .pl), (1, .pl), (4, .pl), (5, .pl)] (fun i : Nat => ⟨[(0, .d (lD sD l)), (1, .d (iD (left - l.length - sumW ByteArray.size (l.take i)))), (4, .d (iD 0)), (5, .d (iD i))], [], []⟩) (fun i => i ≤ l.length ∧ (sumW ByteArray.size (l.take i) : Int) ≤ left - l.length) (fun i => l.length - i) (by kernel_rfl) ?_ ?_
    · conv => whnf
      exact ⟨0, ⟨by omega, by simp [sumW]; omega⟩, by simp [sumW, e1]⟩
    · intro i ⟨hi, hs⟩
      conv => whnf
      repeat' first
        | (refine brLt (fun h => ?_) (fun h => ?_) <;> conv => whnf)
        | (refine WrK_i64 (by omega) (by omega) ?_; conv => whnf)
        | (refine IxK_mapLt _ rfl (by omega) (fun x hx => ?_); (conv => whnf); have hx1 := sumW_take (f := ByteArray.size) hx; have hx2 := sumW_take_le ByteArray.size l (i + 1); have hx3 := get_lt hx; have hx4 := hok _ (get_mem hx); unfold okS at hx4)
      all_goals first
        | exact ⟨i + 1, ⟨by omega, by omega⟩, (by show l.length - (i + 1) < l.length - i; omega), (by
            have e3 : left - l.length - (sumW ByteArray.size (l.take i) : Int) - (ByteArray.size x : Nat) = left - l.length - (sumW ByteArray.size (l.take (i + 1)) : Int) := by omega
            dsimp only
            rw [← e3]
            rfl)⟩
        | (exfalso; omega)
        | exact congrArg iD (by rw [szR_lt (by omega)])
        | exact congrArg iD (by have e2 : l.take i = l := List.take_of_length_le (by omega); rw [e2] at hs ⊢; rw [szR_ge (by omega)]; omega)


set_option maxHeartbeats 400000 in
theorem c_laws_toStringS (l : List ByteArray) (hw : wtL ByteArray.size l ≤ 1048576) (hok : ∀ v ∈ l, okS v) : Contract Try.prog 170 [.d (lD sD l)] (.one (.own ⟨9, 1, l.map sD⟩)) := by
  have hlen : l.length ≤ 1048576 := Nat.le_trans wtL_len hw
  refine contract_by hma hTa Try.func170 (by kernel_rfl) (by kernel_rfl) ?_
  conv => whnf
  have e1 : (List.map sD l).length = l.length := List.length_map _
  refine MkK_intro l.length (by omega) (by omega) (by omega) ?_
  conv => whnf
  refine LoopK_intro hma hTa [(0, .pl), (2, .pl), (3, .key 7), (4, .pl)] (fun i : Nat => ⟨[(0, .d (lD sD l)), (2, .nil), (3, .av 7 l.length), (4, .d (iD i))], [(7, some ⟨9, 1, (l.take i).map sD ++ List.replicate (l.length - i) (sD ⟨#[]⟩)⟩)], []⟩) (fun i => i ≤ l.length) (fun i => l.length - i) (by kernel_rfl) ?_ ?_
  · conv => whnf
    exact ⟨0, by omega, rfl⟩
  · intro i hi
    conv => whnf
    refine brLt (fun h => ?_) (fun h => ?_) <;> conv => whnf
    · refine IxK_mapLt _ rfl (by omega) (fun x hx => ?_)
      conv => whnf
      refine IxA_intro i rfl (by omega) ?_
      conv => whnf
      refine setK_intro (by rw [fill_len _ _ hi]; omega) (fill_step (f := sD) hx).symm ?_
      conv => whnf
      refine WrK_i64 (by omega) (by omega) ?_
      conv => whnf
      exact ⟨i + 1, get_lt hx, (by show l.length - (i + 1) < l.length - i; omega), rfl⟩
    · have e2 : i = l.length := by omega
      subst e2
      rw [fill_end]
      exact ⟨rfl, rfl, e1.symm, rfl⟩


set_option maxHeartbeats 400000 in
theorem c_laws_eqStringS (l m : List ByteArray) (hl : okL okS l) (hm : okL okS m) : Contract Try.prog 47 [.d (lD sD l), .d (lD sD m)] (.one (.d (bD (tr (l = m))))) := by
  refine contract_by hma hTa Try.func47 (by kernel_rfl) (by kernel_rfl) ?_
  obtain ⟨hlen, hok⟩ := hl
  obtain ⟨hlen2, hok2⟩ := hm
  conv => whnf
  have e1 : (List.map sD l).length = l.length := List.length_map _
  have e2 : (List.map sD m).length = m.length := List.length_map _
  refine brNEq (fun h => ?_) (fun h => ?_)
  rotate_left
  · conv => whnf
    exact bF (fun hp => by subst hp; omega)
  · conv => whnf
    refine LoopK_intro hma hTa [(0, .pl), (1, .pl), (4, .pl), (5, .pl)] (fun i : Nat => ⟨[(0, .d (lD sD l)), (1, .d (lD sD m)), (4, .d (bD false)), (5, .d (iD i))], [], []⟩) (fun i => i ≤ l.length ∧ l.take i = m.take i) (fun i => l.length - i) (by kernel_rfl) ?_ ?_
    · conv => whnf
      exact ⟨0, ⟨by omega, by simp⟩, rfl⟩
    · intro i ⟨hi, hs⟩
      conv => whnf
      repeat' first
        | (refine brLt (fun h => ?_) (fun h => ?_) <;> conv => whnf)
        | (refine brNTr (fun h => ?_) (fun h => ?_) <;> conv => whnf)
        | (refine brNEq (fun h => ?_) (fun h => ?_) <;> conv => whnf)
        | (refine brNStr (fun h => ?_) (fun h => ?_) <;> conv => whnf)
        | (refine WrK_i64 (by omega) (by omega) ?_; conv => whnf)
        | (refine IxK_mapLt _ rfl (by omega) (fun x hx => ?_); conv => whnf)
      all_goals first
        | exact bT (by rwa [List.take_of_length_le (by omega), List.take_of_length_le (by omega)] at hs)
        | exact bF (fun hp => by subst hp; simp_all)
        | exact ⟨i + 1, ⟨by omega, by rw [take_snoc ‹l[i]? = some _›, take_snoc ‹m[i]? = some _›, hs]; simp_all⟩, (by show l.length - (i + 1) < l.length - i; omega), rfl⟩


theorem c_laws_szOption (x : OptV) (left : Int) (h0 : 0 ≤ left) (h1 : left ≤ 1048576) (hx : x.ok) : Contract Try.prog 153 [.d x.dat, .d (iD left)] (.one (.d (iD (szR left x.wt)))) := by
  refine contract_by hma hTa Try.func153 (by kernel_rfl) (by kernel_rfl) ?_
  obtain ⟨k0, k1⟩ := hx
  unfold okS at k0
  generalize hres : szR left x.wt = res
  conv => whnf
  repeat' first
    | (refine brLt (fun h => ?_) (fun h => ?_) <;> conv => whnf)
    | (refine WrK_i64 (by omega) (by omega) ?_; conv => whnf)
    | (refine CallK_sz (c_laws_szStringS x.values _ (by omega) (by omega) (by assumption)) (fun hc => ?_) (fun hc => ?_) <;> conv => whnf)
  all_goals
    rw [← hres]
    first
    | (exfalso; omega)
    | exact congrArg iD (by rw [szR_lt (by unfold OptV.wt; omega)])
    | exact congrArg iD (by rw [szR_ge (by unfold OptV.wt; omega)]; unfold OptV.wt; omega)


theorem c_laws_toOption (x : OptV) (hx : x.ok) (hw : x.wt ≤ 1048576) : Contract Try.prog 155 [.d x.dat] (.one (.d x.dat)) := by
  refine contract_by hma hTa Try.func155 (by kernel_rfl) (by kernel_rfl) ?_
  obtain ⟨k0, k1⟩ := hx
  conv => whnf
  refine CallK_intro (c_laws_toStringS x.values (by unfold OptV.wt at hw; omega) (And.right (by assumption))) ?_
  conv => whnf
  refine takeK_full (by simp) ?_
  conv => whnf
  exact rfl


theorem c_laws_eqOption (x y : OptV) (hx : x.ok) (hy : y.ok) : Contract Try.prog 158 [.d x.dat, .d y.dat] (.one (.d (bD (tr (x = y))))) := by
  refine contract_by hma hTa Try.func158 (by kernel_rfl) (by kernel_rfl) ?_
  obtain ⟨k0, k1⟩ := hx
  obtain ⟨m0, m1⟩ := hy
  conv => whnf
  repeat' first
    | (refine brLt (fun h => ?_) (fun h => ?_) <;> conv => whnf)
    | (refine brLe (fun h => ?_) (fun h => ?_) <;> conv => whnf)
    | (refine brEq (fun h => ?_) (fun h => ?_) <;> conv => whnf)
    | (refine brTr (fun h => ?_) (fun h => ?_) <;> conv => whnf)
    | (refine brNTr (fun h => ?_) (fun h => ?_) <;> conv => whnf)
    | (refine brNLt (fun h => ?_) (fun h => ?_) <;> conv => whnf)
    | (refine brNLe (fun h => ?_) (fun h => ?_) <;> conv => whnf)
    | (refine brNEq (fun h => ?_) (fun h => ?_) <;> conv => whnf)
    | (refine brStr (fun h => ?_) (fun h => ?_) <;> conv => whnf)
    | (refine brNStr (fun h => ?_) (fun h => ?_) <;> conv => whnf)
    | (refine brStrLt (fun h => ?_) (fun h => ?_) <;> conv => whnf)
    | (refine brNStrLt (fun h => ?_) (fun h => ?_) <;> conv => whnf)
    | (refine brNBEq (fun h => ?_) (fun h => ?_) <;> conv => whnf)
    | (refine brBEq (fun h => ?_) (fun h => ?_) <;> conv => whnf)
    | (refine CallK_intro (c_laws_eqStringS _ _ (by assumption) (by assumption)) ?_; conv => whnf)
    | (refine WrK_i64 (by omega) (by omega) ?_; conv => whnf)
    | (refine takeK_full (by first | exact rfl | exact (List.length_map _).symm | exact List.length_map _ | omega) ?_; conv => whnf)
    | (refine StrK_intro _ rfl (by assumption) ?_; conv => whnf)
    | (refine IxK_map _ rfl (by assumption) ?_; conv => whnf)
    | (refine StrK_lt _ rfl (by omega) (fun b hb => ?_); conv => whnf)
    | (refine IxK_mapLt _ rfl (by (try simp only [List.length_map] at *); omega) (fun x hx => ?_); conv => whnf)
    | (refine IxK_mapI (by omega) (by (try simp only [List.length_map] at *); omega) (fun j x hj hx => ?_); conv => whnf)
    | (refine NeedK_intro (by omega) ?_; conv => whnf)
  all_goals first
    | exact bF (fun hp => by subst hp; simp_all)
    | exact bT (by cases x; cases y; simp_all)


set_option maxHeartbeats 400000 in
theorem c_laws_szOptionS (l : List OptV) (left : Int) (h0 : 0 ≤ left) (h1 : left ≤ 1048576) (hl : okL OptV.ok l) : Contract Try.prog 118 [.d (lD OptV.dat l), .d (iD left)] (.one (.d (iD (szR left (wtL OptV.wt l))))) := by
  refine contract_by hma hTa Try.func118 (by kernel_rfl) (by kernel_rfl) ?_
  obtain ⟨hlen, hok⟩ := hl
  have hw : wtL OptV.wt l = l.length + sumW OptV.wt l := rfl
  rw [hw]
  conv => whnf
  have e1 : (List.map OptV.dat l).length = l.length := List.length_map _
  repeat' first
    | (refine brLt (fun h => ?_) (fun h => ?_) <;> conv => whnf)
    | (refine brLe (fun h => ?_) (fun h => ?_) <;> conv => whnf)
    | (refine brEq (fun h => ?_) (fun h => ?_) <;> conv => whnf)
    | (refine brTr (fun h => ?_) (fun h => ?_) <;> conv => whnf)
    | (refine brNTr (fun h => ?_) (fun h => ?_) <;> conv => whnf)
    | (refine brNLt (fun h => ?_) (fun h => ?_) <;> conv => whnf)
    | (refine brNLe (fun h => ?_) (fun h => ?_) <;> conv => whnf)
    | (refine brNEq (fun h => ?_) (fun h => ?_) <;> conv => whnf)
    | (refine brStr (fun h => ?_) (fun h => ?_) <;> conv => whnf)
    | (refine brNStr (fun h => ?_) (fun h => ?_) <;> conv => whnf)
    | (refine brStrLt (fun h => ?_) (fun h => ?_) <;> conv => whnf)
    | (refine brNStrLt (fun h => ?_) (fun h => ?_) <;> conv => whnf)
    | (refine brNBEq (fun h => ?_) (fun h => ?_) <;> conv => whnf)
    | (refine brBEq (fun h => ?_) (fun h => ?_) <;> conv => whnf)
    | (refine WrK_i64 (by omega) (by omega) ?_; conv => whnf)
    | (refine takeK_full (by first | exact rfl | exact (List.length_map _).symm | exact List.length_map _ | omega) ?_; conv => whnf)
    | (refine StrK_intro _ rfl (by assumption) ?_; conv => whnf)
    | (refine IxK_map _ rfl (by assumption) ?_; conv => whnf)
    | (refine StrK_lt _ rfl (by omega) (fun b hb => ?_); conv => whnf)
    | (refine IxK_mapLt _ rfl (by (try simp only [List.length_map] at *); omega) (fun x hx => ?_); conv => whnf)
    | (refine IxK_mapI (by omega) (by (try simp only [List.length_map] at *); omega) (fun j x hj hx => ?_); conv => whnf)
    | (refine NeedK_intro (by omega) ?_; conv => whnf)
  · exact congrArg iD (by rw [szR_lt (by omega)])
  · refine LoopK_intro hma hTa [(0, .pl), (1, .pl), (4, .pl), (5, .pl)] (fun i : Nat => ⟨[(0, .d (lD OptV.dat l)), (1, .d (iD (left - l.length - sumW OptV.wt (l.take i)))), (4, .d (iD 0)), (5, .d (iD i))], [], []⟩) (fun i => i ≤ l.length ∧ (sumW OptV.wt (l.take i) : Int) ≤ left - l.length) (fun i => l.length - i) (by kernel_rfl) ?_ ?_
    · conv => whnf
      exact ⟨0, ⟨by omega, by simp [sumW]; omega⟩, by simp [sumW, e1]⟩
    · intro i ⟨hi, hs⟩
      conv => whnf
      repeat' first
        | (refine brLt (fun h => ?_) (fun h => ?_) <;> conv => whnf)
        | (refine WrK_i64 (by omega) (by omega) ?_; conv => whnf)
        | (refine IxK_mapLt _ rfl (by omega) (fun x hx => ?_); (conv => whnf); have hx1 := sumW_take (f := OptV.wt) hx; have hx2 := sumW_take_le OptV.wt l (i + 1); have hx3 := get_lt hx; have hx4 := hok _ (get_mem hx))
        | (refine CallK_sz (c_laws_szOption _ _ (by omega) (by omega) (hok _ (get_mem ‹_›))) (fun hc => ?_) (fun hc => ?_) <;> conv => whnf)
      all_goals first
        | exact ⟨i + 1, ⟨by omega, by omega⟩, (by show l.length - (i + 1) < l.length - i; omega), (by
            have e3 : left - l.length - (sumW OptV.wt (l.take i) : Int) - (OptV.wt x : Nat) = left - l.length - (sumW OptV.wt (l.take (i + 1)) : Int) := by omega
            dsimp only
            rw [← e3]
            rfl)⟩
        | (exfalso; omega)
        | exact congrArg iD (by rw [szR_lt (by omega)])
        | exact congrArg iD (by have e2 : l.take i = l := List.take_of_length_le (by omega); rw [e2] at hs ⊢; rw [szR_ge (by omega)]; omega)


set_option maxHeartbeats 400000 in
theorem c_laws_toOptionS (l : List OptV) (hw : wtL OptV.wt l ≤ 1048576) (hok : ∀ v ∈ l, OptV.ok v) : Contract Try.prog 122 [.d (lD OptV.dat l)] (.one (.own ⟨163, 2, l.map OptV.dat⟩)) := by
  have hlen : l.length ≤ 1048576 := Nat.le_trans wtL_len hw
  refine contract_by hma hTa Try.func122 (by kernel_rfl) (by kernel_rfl) ?_
  conv => whnf
  have e1 : (List.map OptV.dat l).length = l.length := List.length_map _
  refine MkK_intro l.length (by omega) (by omega) (by omega) ?_
  conv => whnf
  refine LoopK_intro hma hTa [(0, .pl), (2, .pl), (3, .key 7), (4, .pl)] (fun i : Nat => ⟨[(0, .d (lD OptV.dat l)), (2, .nil), (3, .av 7 l.length), (4, .d (iD i))], [(7, some ⟨163, 2, (l.take i).map OptV.dat ++ List.replicate (l.length - i) (OptV.z.dat)⟩)], []⟩) (fun i => i ≤ l.length) (fun i => l.length - i) (by kernel_rfl) ?_ ?_
  · conv => whnf
    exact ⟨0, by omega, rfl⟩
  · intro i hi
    conv => whnf
    refine brLt (fun h => ?_) (fun h => ?_) <;> conv => whnf
    · refine IxK_mapLt _ rfl (by omega) (fun x hx => ?_)
      conv => whnf
      refine CallK_intro (c_laws_toOption _ (hok _ (get_mem ‹_›)) (Nat.le_trans (wtL_mem (get_mem ‹_›)) hw)) ?_
      conv => whnf
      refine IxA_intro i rfl (by omega) ?_
      conv => whnf
      refine setK_intro (by rw [fill_len _ _ hi]; omega) (fill_step (f := OptV.dat) hx).symm ?_
      conv => whnf
      refine WrK_i64 (by omega) (by omega) ?_
      conv => whnf
      exact ⟨i + 1, get_lt hx, (by show l.length - (i + 1) < l.length - i; omega), rfl⟩
    · have e2 : i = l.length := by omega
      subst e2
      rw [fill_end]
      exact ⟨rfl, rfl, e1.symm, rfl⟩


set_option maxHeartbeats 400000 in
theorem c_laws_eqOptionS (l m : List OptV) (hl : okL OptV.ok l) (hm : okL OptV.ok m) : Contract Try.prog 127 [.d (lD OptV.dat l), .d (lD OptV.dat m)] (.one (.d (bD (tr (l = m))))) := by
  refine contract_by hma hTa Try.func127 (by kernel_rfl) (by kernel_rfl) ?_
  obtain ⟨hlen, hok⟩ := hl
  obtain ⟨hlen2, hok2⟩ := hm
  conv => whnf
  have e1 : (List.map OptV.dat l).length = l.length := List.length_map _
  have e2 : (List.map OptV.dat m).length = m.length := List.length_map _
  refine brNEq (fun h => ?_) (fun h => ?_)
  rotate_left
  · conv => whnf
    exact bF (fun hp => by subst hp; omega)
  · conv => whnf
    refine LoopK_intro hma hTa [(0, .pl), (1, .pl), (4, .pl), (5, .pl)] (fun i : Nat => ⟨[(0, .d (lD OptV.dat l)), (1, .d (lD OptV.dat m)), (4, .d (bD false)), (5, .d (iD i))], [], []⟩) (fun i => i ≤ l.length ∧ l.take i = m.take i) (fun i => l.length - i) (by kernel_rfl) ?_ ?_
    · conv => whnf
      exact ⟨0, ⟨by omega, by simp⟩, rfl⟩
    · intro i ⟨hi, hs⟩
      conv => whnf
      repeat' first
        | (refine brLt (fun h => ?_) (fun h => ?_) <;> conv => whnf)
        | (refine brNTr (fun h => ?_) (fun h => ?_) <;> conv => whnf)
        | (refine brNEq (fun h => ?_) (fun h => ?_) <;> conv => whnf)
        | (refine brNStr (fun h => ?_) (fun h => ?_) <;> conv => whnf)
        | (refine WrK_i64 (by omega) (by omega) ?_; conv => whnf)
        | (refine IxK_mapLt _ rfl (by omega) (fun x hx => ?_); conv => whnf)
        | (refine CallK_intro (c_laws_eqOption _ _ (hok _ (get_mem ‹_›)) (hok2 _ (get_mem ‹_›))) ?_; conv => whnf)
      all_goals first
        | exact bT (by rwa [List.take_of_length_le (by omega), List.take_of_length_le (by omega)] at hs)
        | exact bF (fun hp => by subst hp; simp_all)
        | exact ⟨i + 1, ⟨by omega, by rw [take_snoc ‹l[i]? = some _›, take_snoc ‹m[i]? = some _›, hs]; simp_all⟩, (by show l.length - (i + 1) < l.length - i; omega), rfl⟩


set_option maxHeartbeats 400000 in
theorem c_laws_szCondNodeSS (l : List (List NodeV)) (left : Int) (h0 : 0 ≤ left) (h1 : left ≤ 1048576) (hl : okL (okL NodeV.ok) l) : Contract Try.prog 119 [.d (lD (lD NodeV.dat) l), .d (iD left)] (.one (.d (iD (szR left (wtL (wtL NodeV.wt) l))))) := by
  refine contract_by hma hTa Try.func119 (by kernel_rfl) (by kernel_rfl) ?_
  obtain ⟨hlen, hok⟩ := hl
  have hw : wtL (wtL NodeV.wt) l = l.length + sumW (wtL NodeV.wt) l := rfl
  rw [hw]
  conv => whnf
  have e1 : (List.map (lD NodeV.dat) l).length = l.length := List.length_map _
  repeat' first
    | (refine brLt (fun h => ?_) (fun h => ?_) <;> conv => whnf)
    | (refine brLe (fun h => ?_) (fun h => ?_) <;> conv => whnf)
    | (refine brEq (fun h => ?_) (fun h => ?_) <;> conv => whnf)
    | (refine brTr (fun h => ?_) (fun h => ?_) <;> conv => whnf)
    | (refine brNTr (fun h => ?_) (fun h => ?_) <;> conv => whnf)
    | (refine brNLt (fun h => ?_) (fun h => ?_) <;> conv => whnf)
    | (refine brNLe (fun h => ?_) (fun h => ?_) <;> conv => whnf)
    | (refine brNEq (fun h => ?_) (fun h => ?_) <;> conv => whnf)
    | (refine brStr (fun h => ?_) (fun h => ?_) <;> conv => whnf)
    | (refine brNStr (fun h => ?_) (fun h => ?_) <;> conv => whnf)
    | (refine brStrLt (fun h => ?_) (fun h => ?_) <;> conv => whnf)
    | (refine brNStrLt (fun h => ?_) (fun h => ?_) <;> conv => whnf)
    | (refine brNBEq (fun h => ?_) (fun h => ?_) <;> conv => whnf)
    | (refine brBEq (fun h => ?_) (fun h => ?_) <;> conv => whnf)
    | (refine WrK_i64 (by omega) (by omega) ?_; conv => whnf)
    | (refine takeK_full (by first | exact rfl | exact (List.length_map _).symm | exact List.length_map _ | omega) ?_; conv => whnf)
    | (refine StrK_intro _ rfl (by assumption) ?_; conv => whnf)
    | (refine IxK_map _ rfl (by assumption) ?_; conv => whnf)
    | (refine StrK_lt _ rfl (by omega) (fun b hb => ?_); conv => whnf)
    | (refine IxK_mapLt _ rfl (by (try simp only [List.length_map] at *); omega) (fun x hx => ?_); conv => whnf)
    | (refine IxK_mapI (by omega) (by (try simp only [List.length_map] at *); omega) (fun j x hj hx => ?_); conv => whnf)
    | (refine NeedK_intro (by omega) ?_; conv => whnf)
  · exact congrArg iD (by rw [szR_lt (by omega)])
  · refine LoopK_intro hma hTa [(0, .pl), (1, .pl), (4, .pl), (5, .pl)] (fun i : Nat => ⟨[(0, .d (lD (lD NodeV.dat) l)), (1, .d (iD (left - l.length - sumW (wtL NodeV.wt) (l.take i)))), (4, .d (iD 0)), (5, .d (iD i))], [], []⟩) (fun i => i ≤ l.length ∧ (sumW (wtL NodeV.wt) (l.take i) : Int) ≤ left - l.length) (fun i => l.length - i) (by kernel_rfl) ?_ ?_
    · conv => whnf
      exact ⟨0, ⟨by omega, by simp [sumW]; omega⟩, by simp [sumW, e1]⟩
    · intro i ⟨hi, hs⟩
      conv => whnf
      repeat' first
        | (refine brLt (fun h => ?_) (fun h => ?_) <;> conv => whnf)
        | (refine WrK_i64 (by omega) (by omega) ?_; conv => whnf)
        | (refine IxK_mapLt _ rfl (by omega) (fun x hx => ?_); (conv => whnf); have hx1 := sumW_take (f := (wtL NodeV.wt)) hx; have hx2 := sumW_take_le (wtL NodeV.wt) l (i + 1); have hx3 := get_lt hx; have hx4 := hok _ (get_mem hx))
        | (refine CallK_sz (c_laws_szCondNodeS _ _ (by omega) (by omega) (hok _ (get_mem ‹_›))) (fun hc => ?_) (fun hc => ?_) <;> conv => whnf)
      all_goals first
        | exact ⟨i + 1, ⟨by omega, by omega⟩, (by show l.length - (i + 1) < l.length - i; omega), (by
            have e3 : left - l.length - (sumW (wtL NodeV.wt) (l.take i) : Int) - (wtL NodeV.wt x : Nat) = left - l.length - (sumW (wtL NodeV.wt) (l.take (i + 1)) : Int) := by omega
            dsimp only
            rw [← e3]
            rfl)⟩
        | (exfalso; omega)
        | exact congrArg iD (by rw [szR_lt (by omega)])
        | exact congrArg iD (by have e2 : l.take i = l := List.take_of_length_le (by omega); rw [e2] at hs ⊢; rw [szR_ge (by omega)]; omega)


set_option maxHeartbeats 400000 in
theorem c_laws_toCondNodeSS (l : List (List NodeV)) (hw : wtL (wtL NodeV.wt) l ≤ 1048576) (hok : ∀ v ∈ l, okL NodeV.ok v) : Contract Try.prog 123 [.d (lD (lD NodeV.dat) l)] (.one (.own ⟨122, 1, l.map (lD NodeV.dat)⟩)) := by
  have hlen : l.length ≤ 1048576 := Nat.le_trans wtL_len hw
  refine contract_by hma hTa Try.func123 (by kernel_rfl) (by kernel_rfl) ?_
  conv => whnf
  have e1 : (List.map (lD NodeV.dat) l).length = l.length := List.length_map _
  refine MkK_intro l.length (by omega) (by omega) (by omega) ?_
  conv => whnf
  refine LoopK_intro hma hTa [(0, .pl), (2, .pl), (3, .key 7), (4, .pl)] (fun i : Nat => ⟨[(0, .d (lD (lD NodeV.dat) l)), (2, .nil), (3, .av 7 l.length), (4, .d (iD i))], [(7, some ⟨122, 1, (l.take i).map (lD NodeV.dat) ++ List.replicate (l.length - i) (D.sl [])⟩)], []⟩) (fun i => i ≤ l.length) (fun i => l.length - i) (by kernel_rfl) ?_ ?_
  · conv => whnf
    exact ⟨0, by omega, rfl⟩
  · intro i hi
    conv => whnf
    refine brLt (fun h => ?_) (fun h => ?_) <;> conv => whnf
    · refine IxK_mapLt _ rfl (by omega) (fun x hx => ?_)
      conv => whnf
      refine CallK_intro (c_laws_toCondNodeS _ (Nat.le_trans (wtL_mem (get_mem ‹_›)) hw) (hok _ (get_mem ‹_›)).2) ?_
      conv => whnf
      refine IxA_intro i rfl (by omega) ?_
      conv => whnf
      refine takeK_full (by simp) ?_
      conv => whnf
      refine setK_intro (by rw [fill_len _ _ hi]; omega) (fill_step (f := (lD NodeV.dat)) hx).symm ?_
      conv => whnf
      refine WrK_i64 (by omega) (by omega) ?_
      conv => whnf
      exact ⟨i + 1, get_lt hx, (by show l.length - (i + 1) < l.length - i; omega), rfl⟩
    · have e2 : i = l.length := by omega
      subst e2
      rw [fill_end]
      exact ⟨rfl, rfl, e1.symm, rfl⟩


set_option maxHeartbeats 400000 in
theorem c_laws_eqCondNodeSS (l m : List (List NodeV)) (hl : okL (okL NodeV.ok) l) (hm : okL (okL NodeV.ok) m) : Contract Try.prog 128 [.d (lD (lD NodeV.dat) l), .d (lD (lD NodeV.dat) m)] (.one (.d (bD (tr (l = m))))) := by
  refine contract_by hma hTa Try.func128 (by kernel_rfl) (by kernel_rfl) ?_
  obtain ⟨hlen, hok⟩ := hl
  obtain ⟨hlen2, hok2⟩ := hm
  conv => whnf
  have e1 : (List.map (lD NodeV.dat) l).length = l.length := List.length_map _
  have e2 : (List.map (lD NodeV.dat) m).length = m.length := List.length_map _
  refine brNEq (fun h => ?_) (fun h => ?_)
  rotate_left
  · conv => whnf
    exact bF (fun hp => by subst hp; omega)
  · conv => whnf
    refine LoopK_intro hma hTa [(0, .pl), (1, .pl), (4, .pl), (5, .pl)] (fun i : Nat => ⟨[(0, .d (lD (lD NodeV.dat) l)), (1, .d (lD (lD NodeV.dat) m)), (4, .d (bD false)), (5, .d (iD i))], [], []⟩) (fun i => i ≤ l.length ∧ l.take i = m.take i) (fun i => l.length - i) (by kernel_rfl) ?_ ?_
    · conv => whnf
      exact ⟨0, ⟨by omega, by simp⟩, rfl⟩
    · intro i ⟨hi, hs⟩
      conv => whnf
      repeat' first
        | (refine brLt (fun h => ?_) (fun h => ?_) <;> conv => whnf)
        | (refine brNTr (fun h => ?_) (fun h => ?_) <;> conv => whnf)
        | (refine brNEq (fun h => ?_) (fun h => ?_) <;> conv => whnf)
        | (refine brNStr (fun h => ?_) (fun h => ?_) <;> conv => whnf)
        | (refine WrK_i64 (by omega) (by omega) ?_; conv => whnf)
        | (refine IxK_mapLt _ rfl (by omega) (fun x hx => ?_); conv => whnf)
        | (refine CallK_intro (c_laws_eqCondNodeS _ _ (hok _ (get_mem ‹_›)) (hok2 _ (get_mem ‹_›))) ?_; conv => whnf)
      all_goals first
        | exact bT (by rwa [List.take_of_length_le (by omega), List.take_of_length_le (by omega)] at hs)
        | exact bF (fun hp => by subst hp; simp_all)
        | exact ⟨i + 1, ⟨by omega, by rw [take_snoc ‹l[i]? = some _›, take_snoc ‹m[i]? = some _›, hs]; simp_all⟩, (by show l.length - (i + 1) < l.length - i; omega), rfl⟩


theorem c_laws_szModel (x : ModelV) (left : Int) (h0 : 0 ≤ left) (h1 : left ≤ 1048576) (hx : x.ok) : Contract Try.prog 61 [.d x.dat, .d (iD left)] (.one (.d (iD (szR left x.wt)))) := by
  refine contract_by hma hTa Try.func61 (by kernel_rfl) (by kernel_rfl) ?_
  obtain ⟨k0, k1⟩ := hx
  skip
  generalize hres : szR left x.wt = res
  conv => whnf
  repeat' first
    | (refine brLt (fun h => ?_) (fun h => ?_) <;> conv => whnf)
    | (refine WrK_i64 (by omega) (by omega) ?_; conv => whnf)
    | (refine CallK_sz (c_laws_szOptionS x.options _ (by omega) (by omega) (by assumption)) (fun hc => ?_) (fun hc => ?_) <;> conv => whnf)
    | (refine CallK_sz (c_laws_szCondNodeSS x.rules _ (by omega) (by omega) (by assumption)) (fun hc => ?_) (fun hc => ?_) <;> conv => whnf)
  all_goals
    rw [← hres]
    first
    | (exfalso; omega)
    | exact congrArg iD (by rw [szR_lt (by unfold ModelV.wt; omega)])
    | exact congrArg iD (by rw [szR_ge (by unfold ModelV.wt; omega)]; unfold ModelV.wt; omega)


theorem c_laws_toModel (x : ModelV) (hx : x.ok) (hw : x.wt ≤ 1048576) : Contract Try.prog 63 [.d x.dat] (.one (.d x.dat)) := by
  refine contract_by hma hTa Try.func63 (by kernel_rfl) (by kernel_rfl) ?_
  obtain ⟨k0, k1⟩ := hx
  conv => whnf
  refine CallK_intro (c_laws_toOptionS x.options (by unfold ModelV.wt at hw; omega) (And.right (by assumption))) ?_
  conv => whnf
  refine takeK_full (by simp) ?_
  conv => whnf
  refine CallK_intro (c_laws_toCondNodeSS x.rules (by unfold ModelV.wt at hw; omega) (And.right (by assumption))) ?_
  conv => whnf
  refine takeK_full (by simp) ?_
  conv => whnf
  exact rfl


theorem c_laws_eqModel (x y : ModelV) (hx : x.ok) (hy : y.ok) : Contract Try.prog 65 [.d x.dat, .d y.dat] (.one (.d (bD (tr (x = y))))) := by
  refine contract_by hma hTa Try.func65 (by kernel_rfl) (by kernel_rfl) ?_
  obtain ⟨k0, k1⟩ := hx
  obtain ⟨m0, m1⟩ := hy
  conv => whnf
  repeat' first
    | (refine brLt (fun h => ?_) (fun h => ?_) <;> conv => whnf)
    | (refine brLe (fun h => ?_) (fun h => ?_) <;> conv => whnf)
    | (refine brEq (fun h => ?_) (fun h => ?_) <;> conv => whnf)
    | (refine brTr (fun h => ?_) (fun h => ?_) <;> conv => whnf)
    | (refine brNTr (fun h => ?_) (fun h => ?_) <;> conv => whnf)
    | (refine brNLt (fun h => ?_) (fun h => ?_) <;> conv => whnf)
    | (refine brNLe (fun h => ?_) (fun h => ?_) <;> conv => whnf)
    | (refine brNEq (fun h => ?_) (fun h => ?_) <;> conv => whnf)
    | (refine brStr (fun h => ?_) (fun h => ?_) <;> conv => whnf)
    | (refine brNStr (fun h => ?_) (fun h => ?_) <;> conv => whnf)
    | (refine brStrLt (fun h => ?_) (fun h => ?_) <;> conv => whnf)
    | (refine brNStrLt (fun h => ?_) (fun h => ?_) <;> conv => whnf)
    | (refine brNBEq (fun h => ?_) (fun h => ?_) <;> conv => whnf)
    | (refine brBEq (fun h => ?_) (fun h => ?_) <;> conv => whnf)
    | (refine CallK_intro (c_laws_eqOptionS _ _ (by assumption) (by assumption)) ?_; conv => whnf)
    | (refine CallK_intro (c_laws_eqCondNodeSS _ _ (by assumption) (by assumption)) ?_; conv => whnf)
    | (refine WrK_i64 (by omega) (by omega) ?_; conv => whnf)
    | (refine takeK_full (by first | exact rfl | exact (List.length_map _).symm | exact List.length_map _ | omega) ?_; conv => whnf)
    | (refine StrK_intro _ rfl (by assumption) ?_; conv => whnf)
    | (refine IxK_map _ rfl (by assumption) ?_; conv => whnf)
    | (refine StrK_lt _ rfl (by omega) (fun b hb => ?_); conv => whnf)
    | (refine IxK_mapLt _ rfl (by (try simp only [List.length_map] at *); omega) (fun x hx => ?_); conv => whnf)
    | (refine IxK_mapI (by omega) (by (try simp only [List.length_map] at *); omega) (fun j x hj hx => ?_); conv => whnf)
    | (refine NeedK_intro (by omega) ?_; conv => whnf)
  all_goals first
    | exact bF (fun hp => by subst hp; simp_all)
    | exact bT (by cases x; cases y; simp_all)


theorem c_laws_szBillLine (x : LineV) (left : Int) (h0 : 0 ≤ left) (h1 : left ≤ 1048576) (hx : x.ok) : Contract Try.prog 91 [.d x.dat, .d (iD left)] (.one (.d (iD (szR left x.wt)))) := by
  refine contract_by hma hTa Try.func91 (by kernel_rfl) (by kernel_rfl) ?_
  obtain ⟨k0, k1, k2, k3, k4, k5⟩ := hx
  unfold okS at k0; unfold okS at k1
  generalize hres : szR left x.wt = res
  conv => whnf
  repeat' first
    | (refine brLt (fun h => ?_) (fun h => ?_) <;> conv => whnf)
    | (refine WrK_i64 (by omega) (by omega) ?_; conv => whnf)
    | (refine CallK_sz (c_laws_szCondNodeS x.when _ (by omega) (by omega) (by assumption)) (fun hc => ?_) (fun hc => ?_) <;> conv => whnf)
  all_goals
    rw [← hres]
    first
    | (exfalso; omega)
    | exact congrArg iD (by rw [szR_lt (by unfold LineV.wt; omega)])
    | exact congrArg iD (by rw [szR_ge (by unfold LineV.wt; omega)]; unfold LineV.wt; omega)


theorem c_laws_toBillLine (x : LineV) (hx : x.ok) (hw : x.wt ≤ 1048576) : Contract Try.prog 95 [.d x.dat] (.one (.d x.dat)) := by
  refine contract_by hma hTa Try.func95 (by kernel_rfl) (by kernel_rfl) ?_
  obtain ⟨k0, k1, k2, k3, k4, k5⟩ := hx
  conv => whnf
  refine CallK_intro (c_laws_toCondNodeS x.when (by unfold LineV.wt at hw; omega) (And.right (by assumption))) ?_
  conv => whnf
  refine takeK_full (by simp) ?_
  conv => whnf
  exact rfl


theorem c_laws_eqBillLine (x y : LineV) (hx : x.ok) (hy : y.ok) : Contract Try.prog 99 [.d x.dat, .d y.dat] (.one (.d (bD (tr (x = y))))) := by
  refine contract_by hma hTa Try.func99 (by kernel_rfl) (by kernel_rfl) ?_
  obtain ⟨k0, k1, k2, k3, k4, k5⟩ := hx
  obtain ⟨m0, m1, m2, m3, m4, m5⟩ := hy
  conv => whnf
  repeat' first
    | (refine brLt (fun h => ?_) (fun h => ?_) <;> conv => whnf)
    | (refine brLe (fun h => ?_) (fun h => ?_) <;> conv => whnf)
    | (refine brEq (fun h => ?_) (fun h => ?_) <;> conv => whnf)
    | (refine brTr (fun h => ?_) (fun h => ?_) <;> conv => whnf)
    | (refine brNTr (fun h => ?_) (fun h => ?_) <;> conv => whnf)
    | (refine brNLt (fun h => ?_) (fun h => ?_) <;> conv => whnf)
    | (refine brNLe (fun h => ?_) (fun h => ?_) <;> conv => whnf)
    | (refine brNEq (fun h => ?_) (fun h => ?_) <;> conv => whnf)
    | (refine brStr (fun h => ?_) (fun h => ?_) <;> conv => whnf)
    | (refine brNStr (fun h => ?_) (fun h => ?_) <;> conv => whnf)
    | (refine brStrLt (fun h => ?_) (fun h => ?_) <;> conv => whnf)
    | (refine brNStrLt (fun h => ?_) (fun h => ?_) <;> conv => whnf)
    | (refine brNBEq (fun h => ?_) (fun h => ?_) <;> conv => whnf)
    | (refine brBEq (fun h => ?_) (fun h => ?_) <;> conv => whnf)
    | (refine CallK_intro (c_laws_eqCondNodeS _ _ (by assumption) (by assumption)) ?_; conv => whnf)
    | (refine WrK_i64 (by omega) (by omega) ?_; conv => whnf)
    | (refine takeK_full (by first | exact rfl | exact (List.length_map _).symm | exact List.length_map _ | omega) ?_; conv => whnf)
    | (refine StrK_intro _ rfl (by assumption) ?_; conv => whnf)
    | (refine IxK_map _ rfl (by assumption) ?_; conv => whnf)
    | (refine StrK_lt _ rfl (by omega) (fun b hb => ?_); conv => whnf)
    | (refine IxK_mapLt _ rfl (by (try simp only [List.length_map] at *); omega) (fun x hx => ?_); conv => whnf)
    | (refine IxK_mapI (by omega) (by (try simp only [List.length_map] at *); omega) (fun j x hj hx => ?_); conv => whnf)
    | (refine NeedK_intro (by omega) ?_; conv => whnf)
  all_goals first
    | exact bF (fun hp => by subst hp; simp_all)
    | exact bT (by cases x; cases y; simp_all)


set_option maxHeartbeats 400000 in
theorem c_laws_szBillLineS (l : List LineV) (left : Int) (h0 : 0 ≤ left) (h1 : left ≤ 1048576) (hl : okL LineV.ok l) : Contract Try.prog 31 [.d (lD LineV.dat l), .d (iD left)] (.one (.d (iD (szR left (wtL LineV.wt l))))) := by
  refine contract_by hma hTa Try.func31 (by kernel_rfl) (by kernel_rfl) ?_
  obtain ⟨hlen, hok⟩ := hl
  have hw : wtL LineV.wt l = l.length + sumW LineV.wt l := rfl
  rw [hw]
  conv => whnf
  have e1 : (List.map LineV.dat l).length = l.length := List.length_map _
  repeat' first
    | (refine brLt (fun h => ?_) (fun h => ?_) <;> conv => whnf)
    | (refine brLe (fun h => ?_) (fun h => ?_) <;> conv => whnf)
    | (refine brEq (fun h => ?_) (fun h => ?_) <;> conv => whnf)
    | (refine brTr (fun h => ?_) (fun h => ?_) <;> conv => whnf)
    | (refine brNTr (fun h => ?_) (fun h => ?_) <;> conv => whnf)
    | (refine brNLt (fun h => ?_) (fun h => ?_) <;> conv => whnf)
    | (refine brNLe (fun h => ?_) (fun h => ?_) <;> conv => whnf)
    | (refine brNEq (fun h => ?_) (fun h => ?_) <;> conv => whnf)
    | (refine brStr (fun h => ?_) (fun h => ?_) <;> conv => whnf)
    | (refine brNStr (fun h => ?_) (fun h => ?_) <;> conv => whnf)
    | (refine brStrLt (fun h => ?_) (fun h => ?_) <;> conv => whnf)
    | (refine brNStrLt (fun h => ?_) (fun h => ?_) <;> conv => whnf)
    | (refine brNBEq (fun h => ?_) (fun h => ?_) <;> conv => whnf)
    | (refine brBEq (fun h => ?_) (fun h => ?_) <;> conv => whnf)
    | (refine WrK_i64 (by omega) (by omega) ?_; conv => whnf)
    | (refine takeK_full (by first | exact rfl | exact (List.length_map _).symm | exact List.length_map _ | omega) ?_; conv => whnf)
    | (refine StrK_intro _ rfl (by assumption) ?_; conv => whnf)
    | (refine IxK_map _ rfl (by assumption) ?_; conv => whnf)
    | (refine StrK_lt _ rfl (by omega) (fun b hb => ?_); conv => whnf)
    | (refine IxK_mapLt _ rfl (by (try simp only [List.length_map] at *); omega) (fun x hx => ?_); conv => whnf)
    | (refine IxK_mapI (by omega) (by (try simp only [List.length_map] at *); omega) (fun j x hj hx => ?_); conv => whnf)
    | (refine NeedK_intro (by omega) ?_; conv => whnf)
  · exact congrArg iD (by rw [szR_lt (by omega)])
  · refine LoopK_intro hma hTa [(0, .pl), (1, .pl), (4, .pl), (5, .pl)] (fun i : Nat => ⟨[(0, .d (lD LineV.dat l)), (1, .d (iD (left - l.length - sumW LineV.wt (l.take i)))), (4, .d (iD 0)), (5, .d (iD i))], [], []⟩) (fun i => i ≤ l.length ∧ (sumW LineV.wt (l.take i) : Int) ≤ left - l.length) (fun i => l.length - i) (by kernel_rfl) ?_ ?_
    · conv => whnf
      exact ⟨0, ⟨by omega, by simp [sumW]; omega⟩, by simp [sumW, e1]⟩
    · intro i ⟨hi, hs⟩
      conv => whnf
      repeat' first
        | (refine brLt (fun h => ?_) (fun h => ?_) <;> conv => whnf)
        | (refine WrK_i64 (by omega) (by omega) ?_; conv => whnf)
        | (refine IxK_mapLt _ rfl (by omega) (fun x hx => ?_); (conv => whnf); have hx1 := sumW_take (f := LineV.wt) hx; have hx2 := sumW_take_le LineV.wt l (i + 1); have hx3 := get_lt hx; have hx4 := hok _ (get_mem hx))
        | (refine CallK_sz (c_laws_szBillLine _ _ (by omega) (by omega) (hok _ (get_mem ‹_›))) (fun hc => ?_) (fun hc => ?_) <;> conv => whnf)
      all_goals first
        | exact ⟨i + 1, ⟨by omega, by omega⟩, (by show l.length - (i + 1) < l.length - i; omega), (by
            have e3 : left - l.length - (sumW LineV.wt (l.take i) : Int) - (LineV.wt x : Nat) = left - l.length - (sumW LineV.wt (l.take (i + 1)) : Int) := by omega
            dsimp only
            rw [← e3]
            rfl)⟩
        | (exfalso; omega)
        | exact congrArg iD (by rw [szR_lt (by omega)])
        | exact congrArg iD (by have e2 : l.take i = l := List.take_of_length_le (by omega); rw [e2] at hs ⊢; rw [szR_ge (by omega)]; omega)


set_option maxHeartbeats 400000 in
theorem c_laws_toBillLineS (l : List LineV) (hw : wtL LineV.wt l ≤ 1048576) (hok : ∀ v ∈ l, LineV.ok v) : Contract Try.prog 34 [.d (lD LineV.dat l)] (.one (.own ⟨124, 6, l.map LineV.dat⟩)) := by
  have hlen : l.length ≤ 1048576 := Nat.le_trans wtL_len hw
  refine contract_by hma hTa Try.func34 (by kernel_rfl) (by kernel_rfl) ?_
  conv => whnf
  have e1 : (List.map LineV.dat l).length = l.length := List.length_map _
  refine MkK_intro l.length (by omega) (by omega) (by omega) ?_
  conv => whnf
  refine LoopK_intro hma hTa [(0, .pl), (2, .pl), (3, .key 7), (4, .pl)] (fun i : Nat => ⟨[(0, .d (lD LineV.dat l)), (2, .nil), (3, .av 7 l.length), (4, .d (iD i))], [(7, some ⟨124, 6, (l.take i).map LineV.dat ++ List.replicate (l.length - i) (LineV.z.dat)⟩)], []⟩) (fun i => i ≤ l.length) (fun i => l.length - i) (by kernel_rfl) ?_ ?_
  · conv => whnf
    exact ⟨0, by omega, rfl⟩
  · intro i hi
    conv => whnf
    refine brLt (fun h => ?_) (fun h => ?_) <;> conv => whnf
    · refine IxK_mapLt _ rfl (by omega) (fun x hx => ?_)
      conv => whnf
      refine CallK_intro (c_laws_toBillLine _ (hok _ (get_mem ‹_›)) (Nat.le_trans (wtL_mem (get_mem ‹_›)) hw)) ?_
      conv => whnf
      refine IxA_intro i rfl (by omega) ?_
      conv => whnf
      refine setK_intro (by rw [fill_len _ _ hi]; omega) (fill_step (f := LineV.dat) hx).symm ?_
      conv => whnf
      refine WrK_i64 (by omega) (by omega) ?_
      conv => whnf
      exact ⟨i + 1, get_lt hx, (by show l.length - (i + 1) < l.length - i; omega), rfl⟩
    · have e2 : i = l.length := by omega
      subst e2
      rw [fill_end]
      exact ⟨rfl, rfl, e1.symm, rfl⟩


set_option maxHeartbeats 400000 in
theorem c_laws_eqBillLineS (l m : List LineV) (hl : okL LineV.ok l) (hm : okL LineV.ok m) : Contract Try.prog 38 [.d (lD LineV.dat l), .d (lD LineV.dat m)] (.one (.d (bD (tr (l = m))))) := by
  refine contract_by hma hTa Try.func38 (by kernel_rfl) (by kernel_rfl) ?_
  obtain ⟨hlen, hok⟩ := hl
  obtain ⟨hlen2, hok2⟩ := hm
  conv => whnf
  have e1 : (List.map LineV.dat l).length = l.length := List.length_map _
  have e2 : (List.map LineV.dat m).length = m.length := List.length_map _
  refine brNEq (fun h => ?_) (fun h => ?_)
  rotate_left
  · conv => whnf
    exact bF (fun hp => by subst hp; omega)
  · conv => whnf
    refine LoopK_intro hma hTa [(0, .pl), (1, .pl), (4, .pl), (5, .pl)] (fun i : Nat => ⟨[(0, .d (lD LineV.dat l)), (1, .d (lD LineV.dat m)), (4, .d (bD false)), (5, .d (iD i))], [], []⟩) (fun i => i ≤ l.length ∧ l.take i = m.take i) (fun i => l.length - i) (by kernel_rfl) ?_ ?_
    · conv => whnf
      exact ⟨0, ⟨by omega, by simp⟩, rfl⟩
    · intro i ⟨hi, hs⟩
      conv => whnf
      repeat' first
        | (refine brLt (fun h => ?_) (fun h => ?_) <;> conv => whnf)
        | (refine brNTr (fun h => ?_) (fun h => ?_) <;> conv => whnf)
        | (refine brNEq (fun h => ?_) (fun h => ?_) <;> conv => whnf)
        | (refine brNStr (fun h => ?_) (fun h => ?_) <;> conv => whnf)
        | (refine WrK_i64 (by omega) (by omega) ?_; conv => whnf)
        | (refine IxK_mapLt _ rfl (by omega) (fun x hx => ?_); conv => whnf)
        | (refine CallK_intro (c_laws_eqBillLine _ _ (hok _ (get_mem ‹_›)) (hok2 _ (get_mem ‹_›))) ?_; conv => whnf)
      all_goals first
        | exact bT (by rwa [List.take_of_length_le (by omega), List.take_of_length_le (by omega)] at hs)
        | exact bF (fun hp => by subst hp; simp_all)
        | exact ⟨i + 1, ⟨by omega, by rw [take_snoc ‹l[i]? = some _›, take_snoc ‹m[i]? = some _›, hs]; simp_all⟩, (by show l.length - (i + 1) < l.length - i; omega), rfl⟩


theorem c_laws_eqNeed (x y : NeedV) (hx : x.ok) (hy : y.ok) : Contract Try.prog 114 [.d x.dat, .d y.dat] (.one (.d (bD (tr (x = y))))) := by
  refine contract_by hma hTa Try.func114 (by kernel_rfl) (by kernel_rfl) ?_
  obtain ⟨k0, k1⟩ := hx
  obtain ⟨m0, m1⟩ := hy
  conv => whnf
  repeat' first
    | (refine brLt (fun h => ?_) (fun h => ?_) <;> conv => whnf)
    | (refine brLe (fun h => ?_) (fun h => ?_) <;> conv => whnf)
    | (refine brEq (fun h => ?_) (fun h => ?_) <;> conv => whnf)
    | (refine brTr (fun h => ?_) (fun h => ?_) <;> conv => whnf)
    | (refine brNTr (fun h => ?_) (fun h => ?_) <;> conv => whnf)
    | (refine brNLt (fun h => ?_) (fun h => ?_) <;> conv => whnf)
    | (refine brNLe (fun h => ?_) (fun h => ?_) <;> conv => whnf)
    | (refine brNEq (fun h => ?_) (fun h => ?_) <;> conv => whnf)
    | (refine brStr (fun h => ?_) (fun h => ?_) <;> conv => whnf)
    | (refine brNStr (fun h => ?_) (fun h => ?_) <;> conv => whnf)
    | (refine brStrLt (fun h => ?_) (fun h => ?_) <;> conv => whnf)
    | (refine brNStrLt (fun h => ?_) (fun h => ?_) <;> conv => whnf)
    | (refine brNBEq (fun h => ?_) (fun h => ?_) <;> conv => whnf)
    | (refine brBEq (fun h => ?_) (fun h => ?_) <;> conv => whnf)
    | (refine WrK_i64 (by omega) (by omega) ?_; conv => whnf)
    | (refine takeK_full (by first | exact rfl | exact (List.length_map _).symm | exact List.length_map _ | omega) ?_; conv => whnf)
    | (refine StrK_intro _ rfl (by assumption) ?_; conv => whnf)
    | (refine IxK_map _ rfl (by assumption) ?_; conv => whnf)
    | (refine StrK_lt _ rfl (by omega) (fun b hb => ?_); conv => whnf)
    | (refine IxK_mapLt _ rfl (by (try simp only [List.length_map] at *); omega) (fun x hx => ?_); conv => whnf)
    | (refine IxK_mapI (by omega) (by (try simp only [List.length_map] at *); omega) (fun j x hj hx => ?_); conv => whnf)
    | (refine NeedK_intro (by omega) ?_; conv => whnf)
  all_goals first
    | exact bF (fun hp => by subst hp; simp_all)
    | exact bT (by cases x; cases y; simp_all)


set_option maxHeartbeats 400000 in
theorem c_laws_eqNeedS (l m : List NeedV) (hl : okL NeedV.ok l) (hm : okL NeedV.ok m) : Contract Try.prog 54 [.d (lD NeedV.dat l), .d (lD NeedV.dat m)] (.one (.d (bD (tr (l = m))))) := by
  refine contract_by hma hTa Try.func54 (by kernel_rfl) (by kernel_rfl) ?_
  obtain ⟨hlen, hok⟩ := hl
  obtain ⟨hlen2, hok2⟩ := hm
  conv => whnf
  have e1 : (List.map NeedV.dat l).length = l.length := List.length_map _
  have e2 : (List.map NeedV.dat m).length = m.length := List.length_map _
  refine brNEq (fun h => ?_) (fun h => ?_)
  rotate_left
  · conv => whnf
    exact bF (fun hp => by subst hp; omega)
  · conv => whnf
    refine LoopK_intro hma hTa [(0, .pl), (1, .pl), (4, .pl), (5, .pl)] (fun i : Nat => ⟨[(0, .d (lD NeedV.dat l)), (1, .d (lD NeedV.dat m)), (4, .d (bD false)), (5, .d (iD i))], [], []⟩) (fun i => i ≤ l.length ∧ l.take i = m.take i) (fun i => l.length - i) (by kernel_rfl) ?_ ?_
    · conv => whnf
      exact ⟨0, ⟨by omega, by simp⟩, rfl⟩
    · intro i ⟨hi, hs⟩
      conv => whnf
      repeat' first
        | (refine brLt (fun h => ?_) (fun h => ?_) <;> conv => whnf)
        | (refine brNTr (fun h => ?_) (fun h => ?_) <;> conv => whnf)
        | (refine brNEq (fun h => ?_) (fun h => ?_) <;> conv => whnf)
        | (refine brNStr (fun h => ?_) (fun h => ?_) <;> conv => whnf)
        | (refine WrK_i64 (by omega) (by omega) ?_; conv => whnf)
        | (refine IxK_mapLt _ rfl (by omega) (fun x hx => ?_); conv => whnf)
        | (refine CallK_intro (c_laws_eqNeed _ _ (hok _ (get_mem ‹_›)) (hok2 _ (get_mem ‹_›))) ?_; conv => whnf)
      all_goals first
        | exact bT (by rwa [List.take_of_length_le (by omega), List.take_of_length_le (by omega)] at hs)
        | exact bF (fun hp => by subst hp; simp_all)
        | exact ⟨i + 1, ⟨by omega, by rw [take_snoc ‹l[i]? = some _›, take_snoc ‹m[i]? = some _›, hs]; simp_all⟩, (by show l.length - (i + 1) < l.length - i; omega), rfl⟩


set_option maxHeartbeats 400000 in
theorem c_laws_eqIntS (l m : List Int) (hl : okL okI l) (hm : okL okI m) : Contract Try.prog 36 [.d (lD iD l), .d (lD iD m)] (.one (.d (bD (tr (l = m))))) := by
  refine contract_by hma hTa Try.func36 (by kernel_rfl) (by kernel_rfl) ?_
  obtain ⟨hlen, hok⟩ := hl
  obtain ⟨hlen2, hok2⟩ := hm
  conv => whnf
  have e1 : (List.map iD l).length = l.length := List.length_map _
  have e2 : (List.map iD m).length = m.length := List.length_map _
  refine brNEq (fun h => ?_) (fun h => ?_)
  rotate_left
  · conv => whnf
    exact bF (fun hp => by subst hp; omega)
  · conv => whnf
    refine LoopK_intro hma hTa [(0, .pl), (1, .pl), (4, .pl), (5, .pl)] (fun i : Nat => ⟨[(0, .d (lD iD l)), (1, .d (lD iD m)), (4, .d (bD false)), (5, .d (iD i))], [], []⟩) (fun i => i ≤ l.length ∧ l.take i = m.take i) (fun i => l.length - i) (by kernel_rfl) ?_ ?_
    · conv => whnf
      exact ⟨0, ⟨by omega, by simp⟩, rfl⟩
    · intro i ⟨hi, hs⟩
      conv => whnf
      repeat' first
        | (refine brLt (fun h => ?_) (fun h => ?_) <;> conv => whnf)
        | (refine brNTr (fun h => ?_) (fun h => ?_) <;> conv => whnf)
        | (refine brNEq (fun h => ?_) (fun h => ?_) <;> conv => whnf)
        | (refine brNStr (fun h => ?_) (fun h => ?_) <;> conv => whnf)
        | (refine WrK_i64 (by omega) (by omega) ?_; conv => whnf)
        | (refine IxK_mapLt _ rfl (by omega) (fun x hx => ?_); conv => whnf)
      all_goals first
        | exact bT (by rwa [List.take_of_length_le (by omega), List.take_of_length_le (by omega)] at hs)
        | exact bF (fun hp => by subst hp; simp_all)
        | exact ⟨i + 1, ⟨by omega, by rw [take_snoc ‹l[i]? = some _›, take_snoc ‹m[i]? = some _›, hs]; simp_all⟩, (by show l.length - (i + 1) < l.length - i; omega), rfl⟩


end Go.DL
