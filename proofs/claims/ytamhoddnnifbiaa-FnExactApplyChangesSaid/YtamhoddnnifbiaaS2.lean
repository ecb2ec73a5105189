/- Contracts of functions of the program, at this seat: what each call returns, by its arguments as data; each states its own conditions. -/
import Derived.Test.YtamhoddnnifbiaaS1
namespace Go.DL
set_option maxRecDepth 100000
set_option maxHeartbeats 2000000
set_option linter.unusedSimpArgs false
set_option linter.unusedVariables false
open Go.RowKit Go.Proofs Go.Proofs.Ytamhoddnnifbiaa

def mkChange (k : Int) : ChangeV := ⟨(k), mtext (k + 1), mtext (k + 1 + 1), mtext (k + 1 + 1 + 1), (k + 1 + 1 + 1 + 1)⟩
def mkChangeL (k : Int) (n : Nat) : List ChangeV := (List.range n).map fun (i : Nat) => mkChange (k + 5 * (i : Int))
theorem mkChangeL_len (k : Int) (n : Nat) : (mkChangeL k n).length = n := by simp [mkChangeL]
theorem mkChangeL_succ (k : Int) (n : Nat) : mkChangeL k (n + 1) = mkChangeL k n ++ [mkChange (k + 5 * (n : Int))] := by simp [mkChangeL, List.range_succ]
theorem mkChangeL_get (k : Int) {n i : Nat} (h : i < n) : (mkChangeL k n)[i]? = some (mkChange (k + 5 * (i : Int))) := by simp [mkChangeL, h]
theorem mkChangeL_flat (k : Int) (n : Nat) : FlatL ((mkChangeL k n).map ChangeV.dat) := by
  intro x hx
  obtain ⟨y, _, rfl⟩ := List.mem_map.1 hx
  intro f hf; simp at hf; rcases hf with rfl | rfl | rfl | rfl | rfl <;> exact ⟨_, rfl⟩


set_option maxHeartbeats 4000000 in
theorem c_laws_markChangeS (l : List ChangeV) (hl : l.length ≤ 1048576) (k : Int) (h1 : 1 ≤ k) (h2 : k ≤ 50000000) : LContract Try.prog 46 [.lv, .d (iD k)] (some ⟨68, 5, l.map ChangeV.dat⟩) (fun r xs => r = .one (.d (iD (k + 5 * (l.length : Int)))) ∧ xs = (mkChangeL k l.length).map ChangeV.dat) := by
  refine contract_byL [] hma hTa Try.func46 (by kernel_rfl) (by kernel_rfl) ?_
  conv => whnf
  have e1 : (List.map ChangeV.dat l).length = l.length := List.length_map _
  refine LoopK_intro hma hTa [(0, .key 100000), (1, .pl), (5, .pl)] (fun i : Nat => ⟨[(0, .av 100000 (l.map ChangeV.dat).length), (1, .d (iD (k + 5 * (i : Int)))), (5, .d (iD i))], [(100000, some ⟨68, 5, (mkChangeL k i).map ChangeV.dat ++ (l.drop i).map ChangeV.dat⟩)], []⟩) (fun i => i ≤ l.length) (fun i => l.length - i) (by kernel_rfl) ?_ ?_
  · conv => whnf
    refine ⟨0, by omega, ?_⟩
    have : k + 5 * ((0 : Nat) : Int) = k := by omega
    dsimp only
    rw [this]; rfl
  · intro i hi
    conv => whnf
    refine brLt (fun h => ?_) (fun h => ?_) <;> conv => whnf
    · have hlt : i < l.length := by omega
      have hil : i < (List.map ChangeV.dat l).length := by omega
      have hd : (l.drop i).map ChangeV.dat = ChangeV.dat (l[i]) :: (l.drop (i + 1)).map ChangeV.dat := by rw [List.drop_eq_getElem_cons hlt]; rfl
      have hsn := mkChangeL_succ k i
      have hpl : ((mkChangeL k i).map ChangeV.dat).length = i := by rw [List.length_map, mkChangeL_len]
      have hln : ((mkChangeL k i).map ChangeV.dat ++ ChangeV.dat (l[i]) :: (l.drop (i + 1)).map ChangeV.dat).length = l.length := by rw [List.length_append, hpl, List.length_cons, List.length_map, List.length_drop]; omega
      have fin : (mkChangeL k (i + 1)).map ChangeV.dat ++ (l.drop (i + 1)).map ChangeV.dat = (mkChangeL k i).map ChangeV.dat ++ ChangeV.dat (mkChange (k + 5 * (i : Int))) :: (l.drop (i + 1)).map ChangeV.dat := by rw [hsn]; simp
      have hκ : ∀ κ : Int, κ = k + 5 * (i : Int) → κ + 1 + 1 + 1 + 1 + 1 = k + 5 * ((i + 1 : Nat) : Int) := fun κ h => by rw [h]; omega
      rw [hd]
      generalize (mkChangeL k i).map ChangeV.dat = pre at hpl hln fin ⊢
      have hb : 1 ≤ k + 5 * (i : Int) ∧ k + 5 * (i : Int) ≤ 90000000 := by omega
      have hκ2 := hκ _ rfl
      generalize hκe : k + 5 * (i : Int) = κ at hb fin hκ2 ⊢
      have hll : pre.length + (((l.drop (i + 1)).map ChangeV.dat).length + 1) = l.length := by rw [List.length_append, List.length_cons] at hln; exact hln
      refine IxA_intro i rfl hil ?_
      conv => whnf
      refine getK_intro (get_mid hpl) ?_
      conv => whnf
      refine setK_intro (by rw [List.length_append, List.length_cons]; omega) (set_mid hpl).symm ?_
      conv => whnf
      refine WrK_i64 (by omega) (by omega) ?_
      conv => whnf
      refine CallK_intro (c_laws_markText (κ + 1) (by omega) (by omega)) ?_
      conv => whnf
      refine IxA_intro i rfl hil ?_
      conv => whnf
      refine getK_intro (get_mid hpl) ?_
      conv => whnf
      refine setK_intro (by rw [List.length_append, List.length_cons]; omega) (set_mid hpl).symm ?_
      conv => whnf
      refine WrK_i64 (by omega) (by omega) ?_
      conv => whnf
      refine CallK_intro (c_laws_markText (κ + 1 + 1) (by omega) (by omega)) ?_
      conv => whnf
      refine IxA_intro i rfl hil ?_
      conv => whnf
      refine getK_intro (get_mid hpl) ?_
      conv => whnf
      refine setK_intro (by rw [List.length_append, List.length_cons]; omega) (set_mid hpl).symm ?_
      conv => whnf
      refine WrK_i64 (by omega) (by omega) ?_
      conv => whnf
      refine CallK_intro (c_laws_markText (κ + 1 + 1 + 1) (by omega) (by omega)) ?_
      conv => whnf
      refine IxA_intro i rfl hil ?_
      conv => whnf
      refine getK_intro (get_mid hpl) ?_
      conv => whnf
      refine setK_intro (by rw [List.length_append, List.length_cons]; omega) (set_mid hpl).symm ?_
      conv => whnf
      refine WrK_i64 (by omega) (by omega) ?_
      conv => whnf
      refine IxA_intro i rfl hil ?_
      conv => whnf
      refine getK_intro (get_mid hpl) ?_
      conv => whnf
      refine setK_intro (by rw [List.length_append, List.length_cons]; omega) (set_mid hpl).symm ?_
      conv => whnf
      refine WrK_i64 (by omega) (by omega) ?_
      conv => whnf
      refine WrK_i64 (by omega) (by omega) ?_
      conv => whnf
      refine ⟨i + 1, hlt, Nat.sub_lt_sub_left hlt (Nat.lt_succ_self i), ?_⟩
      dsimp only
      rw [← hκ2, fin]
      rfl
    · have e2 : i = l.length := by omega
      subst e2
      rw [List.drop_of_length_le (Nat.le_refl _), List.map_nil, List.append_nil]
      exact ⟨rfl, rfl, by simp [mkChangeL_len], .one (.d (iD (k + 5 * (l.length : Int)))), ⟨rfl, rfl⟩, rfl, rfl, trivial⟩


end Go.DL
