/- Contracts of functions of the program, at this seat: what each call returns, by its arguments as data; each states its own conditions. -/
import Derived.Test.YthifncefbpmdiaaH
namespace Go.DL
set_option maxRecDepth 100000
set_option maxHeartbeats 2000000
set_option linter.unusedSimpArgs false
set_option linter.unusedVariables false
open Go.RowKit Go.Proofs Go.Proofs.Ythifncefbpmdiaa

set_option maxHeartbeats 4000000 in
theorem c_impl_levels0 (cat : List ItemV) (hc : okL ItemV.ok cat) (lines : List LineV) (hl : okL LineV.ok lines) (hn : cat.length ≤ 12) (hm : lines.length ≤ 24) (hin : linesIn cat lines) (r : Res)
    (hr : (acycP cat lines → r = .tup (.own ⟨3, 1, arrF cat.length (levOf cat lines)⟩) [bD true]) ∧ (¬ acycP cat lines → r = .tup (.d (.sl [])) [bD false])) : Contract Try.prog 97 [.d (lD ItemV.dat cat), .d (lD LineV.dat lines)] r := by
  refine contract_by hma hTa Try.func97 (by kernel_rfl) (by kernel_rfl) ?_
  conv => whnf
  have e1 : (List.map ItemV.dat cat).length = cat.length := List.length_map _
  have e2 : (List.map LineV.dat lines).length = lines.length := List.length_map _
  refine MkK_intro cat.length (by omega) (by omega) (by omega) ?_
  conv => whnf
  refine LoopK_intro hma hTa [(0, .pl), (1, .pl), (4, .pl), (5, .pl), (6, .key 15), (7, .pl)] (fun k : Nat => ⟨[(0, .d (lD ItemV.dat cat)), (1, .d (lD LineV.dat lines)), (4, .nil), (5, .d (bD false)), (6, .av 15 cat.length), (7, .d (iD k))], [(15, some ⟨3, 1, arrF cat.length (levK (edgesOf cat lines) k)⟩)], []⟩) (fun k => k ≤ cat.length + 1) (fun k => cat.length + 2 - k) (by kernel_rfl) ?_ ?_
  · conv => whnf
    exact ⟨0, by omega, by rw [show levK (edgesOf cat lines) 0 = fun _ => 0 from rfl, ← arrF_rep]; rfl⟩
  · intro k hk
    conv => whnf
    refine LoopK2 hma hTa [(0, .pl), (1, .pl), (4, .pl), (5, .pl), (6, .key 15), (7, .pl), (8, .pl), (18, .pl), (19, .pl), (20, .pl)] (fun (i : Nat) (b : Bool) => ⟨[(0, .d (lD ItemV.dat cat)), (1, .d (lD LineV.dat lines)), (4, .nil), (5, .d (bD false)), (6, .av 15 cat.length), (7, .d (iD k)), (8, .d (bD b)), (18, .d (lD LineV.dat lines)), (19, .d (iD (lines.map LineV.dat).length)), (20, .d (iD i))], [(15, some ⟨3, 1, arrF cat.length (passL ((edgesOf cat lines).take i) (levK (edgesOf cat lines) k))⟩)], []⟩) (fun i b => i ≤ lines.length ∧ rndOK (edgesOf cat lines) (levK (edgesOf cat lines) k) i b) (fun i _ => lines.length - i) (by kernel_rfl) ?_ ?_
    · conv => whnf
      exact ⟨0, false, ⟨by omega, rnd_zero _ _⟩, rfl⟩
    · intro i b ⟨hi, hb⟩
      conv => whnf
      have hln : ((edgesOf cat lines).take i).length ≤ 24 := by simp [edges_len]; omega
      have hbd := passL_bound (l := (edgesOf cat lines).take i) (f := levK (edgesOf cat lines) k) (M := 24 * (k : Int)) (lev_bound (by rw [edges_len]; omega) k)
      refine brLt (fun h => ?_) (fun h => ?_) <;> conv => whnf
      · refine IxK_mapLt _ rfl (by omega) (fun x hx => ?_)
        conv => whnf
        have hx1 := hin x (get_mem hx)
        have he := edges_at (cat := cat) hx
        obtain ⟨hp, hpl⟩ := idx_nat hx1.1
        obtain ⟨hq, hql⟩ := idx_nat hx1.2
        refine CallK_intro (c_impl_FindItem _ hc _) ?_
        conv => whnf
        refine CallK_intro (c_impl_FindItem _ hc _) ?_
        conv => whnf
        refine IxA_intro _ hq hql ?_
        conv => whnf
        refine getK_intro (arrF_get hql) ?_
        conv => whnf
        refine IxA_intro _ hp hpl ?_
        conv => whnf
        refine getK_intro (arrF_get hpl) ?_
        conv => whnf
        have hb1 := hbd (idxOf cat x.parent).toNat
        have hb2 := hbd (idxOf cat x.part).toNat
        have hil := get_lt hx
        refine brLe (fun h2 => ?_) (fun h2 => ?_) <;> conv => whnf
        · refine IxA_intro _ hp hpl ?_
          conv => whnf
          refine getK_intro (arrF_get hpl) ?_
          conv => whnf
          refine WrK_i64 (by omega) (by omega) ?_
          conv => whnf
          refine IxA_intro _ hq hql ?_
          conv => whnf
          refine setK_intro (by rw [arrF_len]; exact hql) (arr_step he h2) ?_
          conv => whnf
          refine WrK_i64 (by omega) (by omega) ?_
          conv => whnf
          exact ⟨(i + 1, true), ⟨hil, rnd_new he h2⟩, Nat.sub_lt_sub_left hil (Nat.lt_succ_self i), rfl⟩
        · obtain ⟨h3, h4⟩ := rnd_same hb he h2
          refine WrK_i64 (by omega) (by omega) ?_
          conv => whnf
          exact ⟨(i + 1, b), ⟨hil, h3⟩, Nat.sub_lt_sub_left hil (Nat.lt_succ_self i), by dsimp only; rw [h4]; rfl⟩
      · have ei : i = lines.length := by omega
        subst ei
        have hb : b = true ↔ passL ((edgesOf cat lines).take lines.length) (levK (edgesOf cat lines) k) ≠ levK (edgesOf cat lines) k := hb
        rw [edges_take] at hb ⊢
        have hst : passL (edgesOf cat lines) (levK (edgesOf cat lines) k) = levK (edgesOf cat lines) (k + 1) := rfl
        rw [hst] at hb ⊢
        refine brNB (fun h2 => ?_) (fun h2 => ?_) <;> conv => whnf
        · have hne := hb.1 h2
          refine brLt (fun h3 => ?_) (fun h3 => ?_) <;> conv => whnf
          · have hna : ¬ acycP cat lines := fun ha => hne (by
              have h4 := lev_stays (K := cat.length) ha 1
              have h5 := lev_stays (K := cat.length) ha 2
              rw [show k = cat.length + 1 from by omega]
              exact h5.trans h4.symm)
            rw [hr.2 hna]
            exact ⟨rfl, rfl, trivial⟩
          · refine WrK_i64 (by omega) (by omega) ?_
            conv => whnf
            exact ⟨k + 1, by omega, (by show cat.length + 2 - (k + 1) < cat.length + 2 - k; omega), rfl⟩
        · have heq : levK (edgesOf cat lines) (k + 1) = levK (edgesOf cat lines) k := by
            rcases Classical.em (levK (edgesOf cat lines) (k + 1) = levK (edgesOf cat lines) k) with h4 | h4
            · exact h4
            · rw [hb.2 h4] at h2; cases h2
          obtain ⟨h5, h6⟩ := acyc_of (edges_lt hin) heq
          rw [hr.1 h5]
          exact ⟨⟨rfl, rfl, (arrF_len _ _).symm, by rw [heq, h6]; rfl⟩, rfl, trivial⟩


set_option maxHeartbeats 4000000 in
theorem c_spec_l9Levels0 (cat : List ItemV) (hc : okL ItemV.ok cat) (lines : List LineV) (hl : okL LineV.ok lines) (hn : cat.length ≤ 12) (hm : lines.length ≤ 24) (hin : linesIn cat lines) (r : Res)
    (hr : (acycP cat lines → r = .one (.own ⟨3, 1, arrF cat.length (levOf cat lines)⟩)) ∧ (¬ acycP cat lines → r = .one (.own ⟨3, 1, []⟩))) : Contract Try.prog 93 [.d (lD ItemV.dat cat), .d (lD LineV.dat lines)] r := by
  refine contract_by hma hTa Try.func93 (by kernel_rfl) (by kernel_rfl) ?_
  conv => whnf
  have e1 : (List.map ItemV.dat cat).length = cat.length := List.length_map _
  have e2 : (List.map LineV.dat lines).length = lines.length := List.length_map _
  refine MkK_intro cat.length (by omega) (by omega) (by omega) ?_
  conv => whnf
  refine LoopK_intro hma hTa [(0, .pl), (1, .pl), (4, .pl), (5, .key 13), (6, .pl)] (fun k : Nat => ⟨[(0, .d (lD ItemV.dat cat)), (1, .d (lD LineV.dat lines)), (4, .nil), (5, .av 13 cat.length), (6, .d (iD k))], [(13, some ⟨3, 1, arrF cat.length (levK (edgesOf cat lines) k)⟩)], []⟩) (fun k => k ≤ cat.length + 1 ∧ ∀ j < k, levK (edgesOf cat lines) (j + 1) ≠ levK (edgesOf cat lines) j) (fun k => cat.length + 2 - k) (by kernel_rfl) ?_ ?_
  · conv => whnf
    exact ⟨0, ⟨by omega, fun j hj => by omega⟩, by rw [show levK (edgesOf cat lines) 0 = fun _ => 0 from rfl, ← arrF_rep]; rfl⟩
  · intro k ⟨hk, hno⟩
    conv => whnf
    refine brLe (fun h => ?_) (fun h => ?_) <;> conv => whnf
    rotate_left
    · have hna : ¬ acycP cat lines := hno cat.length (by omega)
      rw [hr.2 hna]
      exact ⟨rfl, rfl, rfl, rfl⟩
    refine LoopK2 hma hTa [(0, .pl), (1, .pl), (4, .pl), (5, .key 13), (6, .pl), (7, .pl), (8, .pl)] (fun (i : Nat) (b : Bool) => ⟨[(0, .d (lD ItemV.dat cat)), (1, .d (lD LineV.dat lines)), (4, .nil), (5, .av 13 cat.length), (6, .d (iD k)), (7, .d (bD b)), (8, .d (iD i))], [(13, some ⟨3, 1, arrF cat.length (passL ((edgesOf cat lines).take i) (levK (edgesOf cat lines) k))⟩)], []⟩) (fun i b => i ≤ lines.length ∧ rndOK (edgesOf cat lines) (levK (edgesOf cat lines) k) i b) (fun i _ => lines.length - i) (by kernel_rfl) ?_ ?_
    · conv => whnf
      exact ⟨0, false, ⟨by omega, rnd_zero _ _⟩, rfl⟩
    · intro i b ⟨hi, hb⟩
      conv => whnf
      have hln : ((edgesOf cat lines).take i).length ≤ 24 := by simp [edges_len]; omega
      have hbd := passL_bound (l := (edgesOf cat lines).take i) (f := levK (edgesOf cat lines) k) (M := 24 * (k : Int)) (lev_bound (by rw [edges_len]; omega) k)
      refine brLt (fun h => ?_) (fun h => ?_) <;> conv => whnf
      · refine IxK_mapLt _ rfl (by omega) (fun x hx => ?_)
        conv => whnf
        have hx1 := hin x (get_mem hx)
        have he := edges_at (cat := cat) hx
        obtain ⟨hp, hpl⟩ := idx_nat hx1.1
        obtain ⟨hq, hql⟩ := idx_nat hx1.2
        refine CallK_intro (c_spec_FindItem _ hc _) ?_
        conv => whnf
        refine IxK_map _ rfl hx ?_
        conv => whnf
        refine CallK_intro (c_spec_FindItem _ hc _) ?_
        conv => whnf
        refine IxA_intro _ hq hql ?_
        conv => whnf
        refine getK_intro (arrF_get hql) ?_
        conv => whnf
        refine IxA_intro _ hp hpl ?_
        conv => whnf
        refine getK_intro (arrF_get hpl) ?_
        conv => whnf
        have hb1 := hbd (idxOf cat x.parent).toNat
        have hb2 := hbd (idxOf cat x.part).toNat
        have hil := get_lt hx
        refine WrK_i64 (by omega) (by omega) ?_
        conv => whnf
        refine brLt (fun h2 => ?_) (fun h2 => ?_) <;> conv => whnf
        · have h2 : passL ((edgesOf cat lines).take i) (levK (edgesOf cat lines) k) (idxOf cat x.part).toNat ≤ passL ((edgesOf cat lines).take i) (levK (edgesOf cat lines) k) (idxOf cat x.parent).toNat := by omega
          refine IxA_intro _ hp hpl ?_
          conv => whnf
          refine getK_intro (arrF_get hpl) ?_
          conv => whnf
          refine WrK_i64 (by omega) (by omega) ?_
          conv => whnf
          refine IxA_intro _ hq hql ?_
          conv => whnf
          refine setK_intro (by rw [arrF_len]; exact hql) (arr_step he h2) ?_
          conv => whnf
          refine WrK_i64 (by omega) (by omega) ?_
          conv => whnf
          exact ⟨(i + 1, true), ⟨hil, rnd_new he h2⟩, Nat.sub_lt_sub_left hil (Nat.lt_succ_self i), rfl⟩
        · obtain ⟨h3, h4⟩ := rnd_same hb he (by dsimp only; omega)
          refine WrK_i64 (by omega) (by omega) ?_
          conv => whnf
          exact ⟨(i + 1, b), ⟨hil, h3⟩, Nat.sub_lt_sub_left hil (Nat.lt_succ_self i), by dsimp only; rw [h4]; rfl⟩
      · have ei : i = lines.length := by omega
        subst ei
        have hb : b = true ↔ passL ((edgesOf cat lines).take lines.length) (levK (edgesOf cat lines) k) ≠ levK (edgesOf cat lines) k := hb
        rw [edges_take] at hb ⊢
        have hst : passL (edgesOf cat lines) (levK (edgesOf cat lines) k) = levK (edgesOf cat lines) (k + 1) := rfl
        rw [hst] at hb ⊢
        refine brNB (fun h2 => ?_) (fun h2 => ?_) <;> conv => whnf
        · have hne := hb.1 h2
          refine WrK_i64 (by omega) (by omega) ?_
          conv => whnf
          refine ⟨k + 1, ⟨by omega, fun j hj => ?_⟩, (by show cat.length + 2 - (k + 1) < cat.length + 2 - k; omega), rfl⟩
          by_cases ej : j = k
          · subst ej; exact hne
          · exact hno j (by omega)
        · have heq : levK (edgesOf cat lines) (k + 1) = levK (edgesOf cat lines) k := by
            rcases Classical.em (levK (edgesOf cat lines) (k + 1) = levK (edgesOf cat lines) k) with h4 | h4
            · exact h4
            · rw [hb.2 h4] at h2; cases h2
          obtain ⟨h5, h6⟩ := acyc_of (edges_lt hin) heq
          rw [hr.1 h5]
          exact ⟨rfl, rfl, (arrF_len _ _).symm, by rw [heq, h6]; rfl⟩


end Go.DL
