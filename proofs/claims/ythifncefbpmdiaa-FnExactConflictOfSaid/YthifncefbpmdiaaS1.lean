/- Contracts of functions of the program, at this seat: what each call returns, by its arguments as data; each states its own conditions. -/
import Derived.Test.YthifncefbpmdiaaS0
namespace Go.DL
set_option maxRecDepth 100000
set_option maxHeartbeats 2000000
set_option linter.unusedSimpArgs false
set_option linter.unusedVariables false
open Go.RowKit Go.Proofs Go.Proofs.Ythifncefbpmdiaa

def mkInt (k : Int) : Int := (k)
def mkIntL (k : Int) (n : Nat) : List Int := (List.range n).map fun (i : Nat) => mkInt (k + 1 * (i : Int))
theorem mkIntL_len (k : Int) (n : Nat) : (mkIntL k n).length = n := by simp [mkIntL]
theorem mkIntL_succ (k : Int) (n : Nat) : mkIntL k (n + 1) = mkIntL k n ++ [mkInt (k + 1 * (n : Int))] := by simp [mkIntL, List.range_succ]
theorem mkIntL_get (k : Int) {n i : Nat} (h : i < n) : (mkIntL k n)[i]? = some (mkInt (k + 1 * (i : Int))) := by simp [mkIntL, h]
theorem mkIntL_flat (k : Int) (n : Nat) : FlatL ((mkIntL k n).map iD) := by
  intro x hx
  obtain ⟨y, _, rfl⟩ := List.mem_map.1 hx
  trivial


set_option maxHeartbeats 4000000 in
theorem c_laws_markIntS (l : List Int) (hl : l.length ≤ 1048576) (k : Int) (h1 : 1 ≤ k) (h2 : k ≤ 50000000) : LContract Try.prog 41 [.lv, .d (iD k)] (some ⟨3, 1, l.map iD⟩) (fun r xs => r = .one (.d (iD (k + 1 * (l.length : Int)))) ∧ xs = (mkIntL k l.length).map iD) := by
  refine contract_byL [] hma hTa Try.func41 (by kernel_rfl) (by kernel_rfl) ?_
  conv => whnf
  have e1 : (List.map iD l).length = l.length := List.length_map _
  refine LoopK_intro hma hTa [(0, .key 100000), (1, .pl), (5, .pl)] (fun i : Nat => ⟨[(0, .av 100000 (l.map iD).length), (1, .d (iD (k + 1 * (i : Int)))), (5, .d (iD i))], [(100000, some ⟨3, 1, (mkIntL k i).map iD ++ (l.drop i).map iD⟩)], []⟩) (fun i => i ≤ l.length) (fun i => l.length - i) (by kernel_rfl) ?_ ?_
  · conv => whnf
    refine ⟨0, by omega, ?_⟩
    have : k + 1 * ((0 : Nat) : Int) = k := by omega
    dsimp only
    rw [this]; rfl
  · intro i hi
    conv => whnf
    refine brLt (fun h => ?_) (fun h => ?_) <;> conv => whnf
    · have hlt : i < l.length := by omega
      have hil : i < (List.map iD l).length := by omega
      have hd : (l.drop i).map iD = iD (l[i]) :: (l.drop (i + 1)).map iD := by rw [List.drop_eq_getElem_cons hlt]; rfl
      have hsn := mkIntL_succ k i
      have hpl : ((mkIntL k i).map iD).length = i := by rw [List.length_map, mkIntL_len]
      have hln : ((mkIntL k i).map iD ++ iD (l[i]) :: (l.drop (i + 1)).map iD).length = l.length := by rw [List.length_append, hpl, List.length_cons, List.length_map, List.length_drop]; omega
      have fin : (mkIntL k (i + 1)).map iD ++ (l.drop (i + 1)).map iD = (mkIntL k i).map iD ++ iD (mkInt (k + 1 * (i : Int))) :: (l.drop (i + 1)).map iD := by rw [hsn]; simp
      have hκ : ∀ κ : Int, κ = k + 1 * (i : Int) → κ + 1 = k + 1 * ((i + 1 : Nat) : Int) := fun κ h => by rw [h]; omega
      rw [hd]
      generalize (mkIntL k i).map iD = pre at hpl hln fin ⊢
      have hb : 1 ≤ k + 1 * (i : Int) ∧ k + 1 * (i : Int) ≤ 90000000 := by omega
      have hκ2 := hκ _ rfl
      generalize hκe : k + 1 * (i : Int) = κ at hb fin hκ2 ⊢
      have hll : pre.length + (((l.drop (i + 1)).map iD).length + 1) = l.length := by rw [List.length_append, List.length_cons] at hln; exact hln
      refine IxA_intro i rfl hil ?_
      conv => whnf
      refine setK_intro (by rw [List.length_append, List.length_cons]; omega) (set_mid hpl).symm ?_
      conv => whnf
      refine WrK_i64 (by omega) (by omega) ?_
      conv => whnf
      refine WrK_i64 (by omega) (by omega) ?_
      conv => whnf
      refine ⟨i + 1, hlt, Nat.sub_lt_sub_left hlt (Nat.lt_succ_self i), ?_⟩
      dsimp only
      rw [← hκ2, fin]
      rfl
    · have e2 : i = l.length := by omega
      subst e2
      rw [List.drop_of_length_le (Nat.le_refl _), List.map_nil, List.append_nil]
      exact ⟨rfl, rfl, by simp [mkIntL_len], .one (.d (iD (k + 1 * (l.length : Int)))), ⟨rfl, rfl⟩, rfl, rfl, trivial⟩


set_option maxHeartbeats 4000000 in
theorem c_laws_heldIntS (n : Nat) (hl : n ≤ 1048576) (k : Int) (h1 : 1 ≤ k) (h2 : k ≤ 50000000) : Contract Try.prog 42 [.d (lD iD (mkIntL k n)), .d (iD k)] (.one (.d (iD (k + 1 * (n : Int))))) := by
  refine contract_by hma hTa Try.func42 (by kernel_rfl) (by kernel_rfl) ?_
  conv => whnf
  have e1 : (List.map iD (mkIntL k n)).length = n := by rw [List.length_map, mkIntL_len]
  refine LoopK_intro hma hTa [(0, .pl), (1, .pl), (5, .pl)] (fun i : Nat => ⟨[(0, .d (lD iD (mkIntL k n))), (1, .d (iD (k + 1 * (i : Int)))), (5, .d (iD i))], [], []⟩) (fun i => i ≤ n) (fun i => n - i) (by kernel_rfl) ?_ ?_
  · conv => whnf
    refine ⟨0, by omega, ?_⟩
    have : k + 1 * ((0 : Nat) : Int) = k := by omega
    dsimp only
    rw [this]; rfl
  · intro i hi
    conv => whnf
    refine brLt (fun h => ?_) (fun h => ?_) <;> conv => whnf
    · have hlt : i < n := by omega
      have hx := mkIntL_get k hlt
      have hb : 1 ≤ k + 1 * (i : Int) ∧ k + 1 * (i : Int) ≤ 90000000 := by omega
      have hκ2 : k + 1 * (i : Int) + 1 = k + 1 * ((i + 1 : Nat) : Int) := by omega
      generalize hκe : k + 1 * (i : Int) = κ at hb hx hκ2 ⊢
      refine IxK_map i rfl hx ?_
      conv => whnf
      refine brNEq (fun _ => ?_) (fun h => absurd rfl h)
      conv => whnf
      refine WrK_i64 (by omega) (by omega) ?_
      conv => whnf
      refine WrK_i64 (by omega) (by omega) ?_
      conv => whnf
      refine ⟨i + 1, hlt, Nat.sub_lt_sub_left hlt (Nat.lt_succ_self i), ?_⟩
      dsimp only
      rw [← hκ2]
      rfl
    · have e2 : i = n := by omega
      rw [e2]


def mkString (k : Int) : ByteArray := mtext (k)
def mkStringL (k : Int) (n : Nat) : List ByteArray := (List.range n).map fun (i : Nat) => mkString (k + 1 * (i : Int))
theorem mkStringL_len (k : Int) (n : Nat) : (mkStringL k n).length = n := by simp [mkStringL]
theorem mkStringL_succ (k : Int) (n : Nat) : mkStringL k (n + 1) = mkStringL k n ++ [mkString (k + 1 * (n : Int))] := by simp [mkStringL, List.range_succ]
theorem mkStringL_get (k : Int) {n i : Nat} (h : i < n) : (mkStringL k n)[i]? = some (mkString (k + 1 * (i : Int))) := by simp [mkStringL, h]
theorem mkStringL_flat (k : Int) (n : Nat) : FlatL ((mkStringL k n).map sD) := by
  intro x hx
  obtain ⟨y, _, rfl⟩ := List.mem_map.1 hx
  trivial


set_option maxHeartbeats 4000000 in
theorem c_laws_markStringS (l : List ByteArray) (hl : l.length ≤ 1048576) (k : Int) (h1 : 1 ≤ k) (h2 : k ≤ 50000000) : LContract Try.prog 50 [.lv, .d (iD k)] (some ⟨9, 1, l.map sD⟩) (fun r xs => r = .one (.d (iD (k + 1 * (l.length : Int)))) ∧ xs = (mkStringL k l.length).map sD) := by
  refine contract_byL [] hma hTa Try.func50 (by kernel_rfl) (by kernel_rfl) ?_
  conv => whnf
  have e1 : (List.map sD l).length = l.length := List.length_map _
  refine LoopK_intro hma hTa [(0, .key 100000), (1, .pl), (5, .pl)] (fun i : Nat => ⟨[(0, .av 100000 (l.map sD).length), (1, .d (iD (k + 1 * (i : Int)))), (5, .d (iD i))], [(100000, some ⟨9, 1, (mkStringL k i).map sD ++ (l.drop i).map sD⟩)], []⟩) (fun i => i ≤ l.length) (fun i => l.length - i) (by kernel_rfl) ?_ ?_
  · conv => whnf
    refine ⟨0, by omega, ?_⟩
    have : k + 1 * ((0 : Nat) : Int) = k := by omega
    dsimp only
    rw [this]; rfl
  · intro i hi
    conv => whnf
    refine brLt (fun h => ?_) (fun h => ?_) <;> conv => whnf
    · have hlt : i < l.length := by omega
      have hil : i < (List.map sD l).length := by omega
      have hd : (l.drop i).map sD = sD (l[i]) :: (l.drop (i + 1)).map sD := by rw [List.drop_eq_getElem_cons hlt]; rfl
      have hsn := mkStringL_succ k i
      have hpl : ((mkStringL k i).map sD).length = i := by rw [List.length_map, mkStringL_len]
      have hln : ((mkStringL k i).map sD ++ sD (l[i]) :: (l.drop (i + 1)).map sD).length = l.length := by rw [List.length_append, hpl, List.length_cons, List.length_map, List.length_drop]; omega
      have fin : (mkStringL k (i + 1)).map sD ++ (l.drop (i + 1)).map sD = (mkStringL k i).map sD ++ sD (mkString (k + 1 * (i : Int))) :: (l.drop (i + 1)).map sD := by rw [hsn]; simp
      have hκ : ∀ κ : Int, κ = k + 1 * (i : Int) → κ + 1 = k + 1 * ((i + 1 : Nat) : Int) := fun κ h => by rw [h]; omega
      rw [hd]
      generalize (mkStringL k i).map sD = pre at hpl hln fin ⊢
      have hb : 1 ≤ k + 1 * (i : Int) ∧ k + 1 * (i : Int) ≤ 90000000 := by omega
      have hκ2 := hκ _ rfl
      generalize hκe : k + 1 * (i : Int) = κ at hb fin hκ2 ⊢
      have hll : pre.length + (((l.drop (i + 1)).map sD).length + 1) = l.length := by rw [List.length_append, List.length_cons] at hln; exact hln
      refine CallK_intro (c_laws_markText (κ) (by omega) (by omega)) ?_
      conv => whnf
      refine IxA_intro i rfl hil ?_
      conv => whnf
      refine setK_intro (by rw [List.length_append, List.length_cons]; omega) (set_mid hpl).symm ?_
      conv => whnf
      refine WrK_i64 (by omega) (by omega) ?_
      conv => whnf
      refine WrK_i64 (by omega) (by omega) ?_
      conv => whnf
      refine ⟨i + 1, hlt, Nat.sub_lt_sub_left hlt (Nat.lt_succ_self i), ?_⟩
      dsimp only
      rw [← hκ2, fin]
      rfl
    · have e2 : i = l.length := by omega
      subst e2
      rw [List.drop_of_length_le (Nat.le_refl _), List.map_nil, List.append_nil]
      exact ⟨rfl, rfl, by simp [mkStringL_len], .one (.d (iD (k + 1 * (l.length : Int)))), ⟨rfl, rfl⟩, rfl, rfl, trivial⟩


set_option maxHeartbeats 4000000 in
theorem c_laws_heldStringS (n : Nat) (hl : n ≤ 1048576) (k : Int) (h1 : 1 ≤ k) (h2 : k ≤ 50000000) : Contract Try.prog 51 [.d (lD sD (mkStringL k n)), .d (iD k)] (.one (.d (iD (k + 1 * (n : Int))))) := by
  refine contract_by hma hTa Try.func51 (by kernel_rfl) (by kernel_rfl) ?_
  conv => whnf
  have e1 : (List.map sD (mkStringL k n)).length = n := by rw [List.length_map, mkStringL_len]
  refine LoopK_intro hma hTa [(0, .pl), (1, .pl), (5, .pl)] (fun i : Nat => ⟨[(0, .d (lD sD (mkStringL k n))), (1, .d (iD (k + 1 * (i : Int)))), (5, .d (iD i))], [], []⟩) (fun i => i ≤ n) (fun i => n - i) (by kernel_rfl) ?_ ?_
  · conv => whnf
    refine ⟨0, by omega, ?_⟩
    have : k + 1 * ((0 : Nat) : Int) = k := by omega
    dsimp only
    rw [this]; rfl
  · intro i hi
    conv => whnf
    refine brLt (fun h => ?_) (fun h => ?_) <;> conv => whnf
    · have hlt : i < n := by omega
      have hx := mkStringL_get k hlt
      have hb : 1 ≤ k + 1 * (i : Int) ∧ k + 1 * (i : Int) ≤ 90000000 := by omega
      have hκ2 : k + 1 * (i : Int) + 1 = k + 1 * ((i + 1 : Nat) : Int) := by omega
      generalize hκe : k + 1 * (i : Int) = κ at hb hx hκ2 ⊢
      refine IxK_map i rfl hx ?_
      conv => whnf
      refine CallK_intro (c_laws_markText (κ) (by omega) (by omega)) ?_
      conv => whnf
      refine brNStr (fun _ => ?_) (fun h => absurd rfl h)
      conv => whnf
      refine WrK_i64 (by omega) (by omega) ?_
      conv => whnf
      refine WrK_i64 (by omega) (by omega) ?_
      conv => whnf
      refine ⟨i + 1, hlt, Nat.sub_lt_sub_left hlt (Nat.lt_succ_self i), ?_⟩
      dsimp only
      rw [← hκ2]
      rfl
    · have e2 : i = n := by omega
      rw [e2]


def mkItem (k : Int) : ItemV := ⟨mtext (k), mtext (k + 1), (k + 1 + 1), (k + 1 + 1 + 1), (k + 1 + 1 + 1 + 1), (k + 1 + 1 + 1 + 1 + 1), (k + 1 + 1 + 1 + 1 + 1 + 1), (k + 1 + 1 + 1 + 1 + 1 + 1 + 1)⟩
def mkItemL (k : Int) (n : Nat) : List ItemV := (List.range n).map fun (i : Nat) => mkItem (k + 8 * (i : Int))
theorem mkItemL_len (k : Int) (n : Nat) : (mkItemL k n).length = n := by simp [mkItemL]
theorem mkItemL_succ (k : Int) (n : Nat) : mkItemL k (n + 1) = mkItemL k n ++ [mkItem (k + 8 * (n : Int))] := by simp [mkItemL, List.range_succ]
theorem mkItemL_get (k : Int) {n i : Nat} (h : i < n) : (mkItemL k n)[i]? = some (mkItem (k + 8 * (i : Int))) := by simp [mkItemL, h]
theorem mkItemL_flat (k : Int) (n : Nat) : FlatL ((mkItemL k n).map ItemV.dat) := by
  intro x hx
  obtain ⟨y, _, rfl⟩ := List.mem_map.1 hx
  intro f hf; simp at hf; rcases hf with rfl | rfl | rfl | rfl | rfl | rfl | rfl | rfl <;> exact ⟨_, rfl⟩


set_option maxHeartbeats 4000000 in
theorem c_laws_markItemS (l : List ItemV) (hl : l.length ≤ 1048576) (k : Int) (h1 : 1 ≤ k) (h2 : k ≤ 50000000) : LContract Try.prog 39 [.lv, .d (iD k)] (some ⟨120, 8, l.map ItemV.dat⟩) (fun r xs => r = .one (.d (iD (k + 8 * (l.length : Int)))) ∧ xs = (mkItemL k l.length).map ItemV.dat) := by
  refine contract_byL [] hma hTa Try.func39 (by kernel_rfl) (by kernel_rfl) ?_
  conv => whnf
  have e1 : (List.map ItemV.dat l).length = l.length := List.length_map _
  refine LoopK_intro hma hTa [(0, .key 100000), (1, .pl), (5, .pl)] (fun i : Nat => ⟨[(0, .av 100000 (l.map ItemV.dat).length), (1, .d (iD (k + 8 * (i : Int)))), (5, .d (iD i))], [(100000, some ⟨120, 8, (mkItemL k i).map ItemV.dat ++ (l.drop i).map ItemV.dat⟩)], []⟩) (fun i => i ≤ l.length) (fun i => l.length - i) (by kernel_rfl) ?_ ?_
  · conv => whnf
    refine ⟨0, by omega, ?_⟩
    have : k + 8 * ((0 : Nat) : Int) = k := by omega
    dsimp only
    rw [this]; rfl
  · intro i hi
    conv => whnf
    refine brLt (fun h => ?_) (fun h => ?_) <;> conv => whnf
    · have hlt : i < l.length := by omega
      have hil : i < (List.map ItemV.dat l).length := by omega
      have hd : (l.drop i).map ItemV.dat = ItemV.dat (l[i]) :: (l.drop (i + 1)).map ItemV.dat := by rw [List.drop_eq_getElem_cons hlt]; rfl
      have hsn := mkItemL_succ k i
      have hpl : ((mkItemL k i).map ItemV.dat).length = i := by rw [List.length_map, mkItemL_len]
      have hln : ((mkItemL k i).map ItemV.dat ++ ItemV.dat (l[i]) :: (l.drop (i + 1)).map ItemV.dat).length = l.length := by rw [List.length_append, hpl, List.length_cons, List.length_map, List.length_drop]; omega
      have fin : (mkItemL k (i + 1)).map ItemV.dat ++ (l.drop (i + 1)).map ItemV.dat = (mkItemL k i).map ItemV.dat ++ ItemV.dat (mkItem (k + 8 * (i : Int))) :: (l.drop (i + 1)).map ItemV.dat := by rw [hsn]; simp
      have hκ : ∀ κ : Int, κ = k + 8 * (i : Int) → κ + 1 + 1 + 1 + 1 + 1 + 1 + 1 + 1 = k + 8 * ((i + 1 : Nat) : Int) := fun κ h => by rw [h]; omega
      rw [hd]
      generalize (mkItemL k i).map ItemV.dat = pre at hpl hln fin ⊢
      have hb : 1 ≤ k + 8 * (i : Int) ∧ k + 8 * (i : Int) ≤ 90000000 := by omega
      have hκ2 := hκ _ rfl
      generalize hκe : k + 8 * (i : Int) = κ at hb fin hκ2 ⊢
      have hll : pre.length + (((l.drop (i + 1)).map ItemV.dat).length + 1) = l.length := by rw [List.length_append, List.length_cons] at hln; exact hln
      refine CallK_intro (c_laws_markText (κ) (by omega) (by omega)) ?_
      conv => whnf
      refine IxA_intro i rfl hil ?_
      conv => whnf
      refine getK_intro (get_mid hpl) ?_
      conv => whnf
      refine setK_intro (by rw [List.length_append, List.length_cons]; omega) (set_mid hpl).symm ?_
      conv => whnf
      refine WrK_i64 (by omega) (by omega) ?_
      conv => whnf
      refine CallK_intro (c_laws_markText (κ + 1) (by omega) (by omega)) ?_
      conv => whnf
      refine IxA_intro i rfl hil ?_
      conv => whnf
      refine getK_intro (get_mid hpl) ?_
      conv => whnf
      refine setK_intro (by rw [List.length_append, List.length_cons]; omega) (set_mid hpl).symm ?_
      conv => whnf
      refine WrK_i64 (by omega) (by omega) ?_
      conv => whnf
      refine IxA_intro i rfl hil ?_
      conv => whnf
      refine getK_intro (get_mid hpl) ?_
      conv => whnf
      refine setK_intro (by rw [List.length_append, List.length_cons]; omega) (set_mid hpl).symm ?_
      conv => whnf
      refine WrK_i64 (by omega) (by omega) ?_
      conv => whnf
      refine IxA_intro i rfl hil ?_
      conv => whnf
      refine getK_intro (get_mid hpl) ?_
      conv => whnf
      refine setK_intro (by rw [List.length_append, List.length_cons]; omega) (set_mid hpl).symm ?_
      conv => whnf
      refine WrK_i64 (by omega) (by omega) ?_
      conv => whnf
      refine IxA_intro i rfl hil ?_
      conv => whnf
      refine getK_intro (get_mid hpl) ?_
      conv => whnf
      refine setK_intro (by rw [List.length_append, List.length_cons]; omega) (set_mid hpl).symm ?_
      conv => whnf
      refine WrK_i64 (by omega) (by omega) ?_
      conv => whnf
      refine IxA_intro i rfl hil ?_
      conv => whnf
      refine getK_intro (get_mid hpl) ?_
      conv => whnf
      refine setK_intro (by rw [List.length_append, List.length_cons]; omega) (set_mid hpl).symm ?_
      conv => whnf
      refine WrK_i64 (by omega) (by omega) ?_
      conv => whnf
      refine IxA_intro i rfl hil ?_
      conv => whnf
      refine getK_intro (get_mid hpl) ?_
      conv => whnf
      refine setK_intro (by rw [List.length_append, List.length_cons]; omega) (set_mid hpl).symm ?_
      conv => whnf
      refine WrK_i64 (by omega) (by omega) ?_
      conv => whnf
      refine IxA_intro i rfl hil ?_
      conv => whnf
      refine getK_intro (get_mid hpl) ?_
      conv => whnf
      refine setK_intro (by rw [List.length_append, List.length_cons]; omega) (set_mid hpl).symm ?_
      conv => whnf
      refine WrK_i64 (by omega) (by omega) ?_
      conv => whnf
      refine WrK_i64 (by omega) (by omega) ?_
      conv => whnf
      refine ⟨i + 1, hlt, Nat.sub_lt_sub_left hlt (Nat.lt_succ_self i), ?_⟩
      dsimp only
      rw [← hκ2, fin]
      rfl
    · have e2 : i = l.length := by omega
      subst e2
      rw [List.drop_of_length_le (Nat.le_refl _), List.map_nil, List.append_nil]
      exact ⟨rfl, rfl, by simp [mkItemL_len], .one (.d (iD (k + 8 * (l.length : Int)))), ⟨rfl, rfl⟩, rfl, rfl, trivial⟩


def mkDemand (k : Int) : DemandV := ⟨(k), mtext (k + 1), (k + 1 + 1), (k + 1 + 1 + 1), (k + 1 + 1 + 1 + 1)⟩
def mkDemandL (k : Int) (n : Nat) : List DemandV := (List.range n).map fun (i : Nat) => mkDemand (k + 5 * (i : Int))
theorem mkDemandL_len (k : Int) (n : Nat) : (mkDemandL k n).length = n := by simp [mkDemandL]
theorem mkDemandL_succ (k : Int) (n : Nat) : mkDemandL k (n + 1) = mkDemandL k n ++ [mkDemand (k + 5 * (n : Int))] := by simp [mkDemandL, List.range_succ]
theorem mkDemandL_get (k : Int) {n i : Nat} (h : i < n) : (mkDemandL k n)[i]? = some (mkDemand (k + 5 * (i : Int))) := by simp [mkDemandL, h]
theorem mkDemandL_flat (k : Int) (n : Nat) : FlatL ((mkDemandL k n).map DemandV.dat) := by
  intro x hx
  obtain ⟨y, _, rfl⟩ := List.mem_map.1 hx
  intro f hf; simp at hf; rcases hf with rfl | rfl | rfl | rfl | rfl <;> exact ⟨_, rfl⟩


set_option maxHeartbeats 4000000 in
theorem c_laws_markDemandS (l : List DemandV) (hl : l.length ≤ 1048576) (k : Int) (h1 : 1 ≤ k) (h2 : k ≤ 50000000) : LContract Try.prog 24 [.lv, .d (iD k)] (some ⟨28, 5, l.map DemandV.dat⟩) (fun r xs => r = .one (.d (iD (k + 5 * (l.length : Int)))) ∧ xs = (mkDemandL k l.length).map DemandV.dat) := by
  refine contract_byL [] hma hTa Try.func24 (by kernel_rfl) (by kernel_rfl) ?_
  conv => whnf
  have e1 : (List.map DemandV.dat l).length = l.length := List.length_map _
  refine LoopK_intro hma hTa [(0, .key 100000), (1, .pl), (5, .pl)] (fun i : Nat => ⟨[(0, .av 100000 (l.map DemandV.dat).length), (1, .d (iD (k + 5 * (i : Int)))), (5, .d (iD i))], [(100000, some ⟨28, 5, (mkDemandL k i).map DemandV.dat ++ (l.drop i).map DemandV.dat⟩)], []⟩) (fun i => i ≤ l.length) (fun i => l.length - i) (by kernel_rfl) ?_ ?_
  · conv => whnf
    refine ⟨0, by omega, ?_⟩
    have : k + 5 * ((0 : Nat) : Int) = k := by omega
    dsimp only
    rw [this]; rfl
  · intro i hi
    conv => whnf
    refine brLt (fun h => ?_) (fun h => ?_) <;> conv => whnf
    · have hlt : i < l.length := by omega
      have hil : i < (List.map DemandV.dat l).length := by omega
      have hd : (l.drop i).map DemandV.dat = DemandV.dat (l[i]) :: (l.drop (i + 1)).map DemandV.dat := by rw [List.drop_eq_getElem_cons hlt]; rfl
      have hsn := mkDemandL_succ k i
      have hpl : ((mkDemandL k i).map DemandV.dat).length = i := by rw [List.length_map, mkDemandL_len]
      have hln : ((mkDemandL k i).map DemandV.dat ++ DemandV.dat (l[i]) :: (l.drop (i + 1)).map DemandV.dat).length = l.length := by rw [List.length_append, hpl, List.length_cons, List.length_map, List.length_drop]; omega
      have fin : (mkDemandL k (i + 1)).map DemandV.dat ++ (l.drop (i + 1)).map DemandV.dat = (mkDemandL k i).map DemandV.dat ++ DemandV.dat (mkDemand (k + 5 * (i : Int))) :: (l.drop (i + 1)).map DemandV.dat := by rw [hsn]; simp
      have hκ : ∀ κ : Int, κ = k + 5 * (i : Int) → κ + 1 + 1 + 1 + 1 + 1 = k + 5 * ((i + 1 : Nat) : Int) := fun κ h => by rw [h]; omega
      rw [hd]
      generalize (mkDemandL k i).map DemandV.dat = pre at hpl hln fin ⊢
      have hb : 1 ≤ k + 5 * (i : Int) ∧ k + 5 * (i : Int) ≤ 90000000 := by omega
      have hκ2 := hκ _ rfl
      generalize hκe : k + 5 * (i : Int) = κ at hb fin hκ2 ⊢
      have hll : pre.length + (((l.drop (i + 1)).map DemandV.dat).length + 1) = l.length := by rw [List.length_append, List.length_cons] at hln; exact hln
      refine IxA_intro i rfl hil ?_
      conv => whnf
      refine getK_intro (get_mid hpl) ?_
      conv => whnf
      refine setK_intro (by rw [List.length_append, List.length_cons]; omega) (set_mid hpl).symm ?_
      conv => whnf
      refine WrK_i64 (by omega) (by omega) ?_
      conv => whnf
      refine CallK_intro (c_laws_markText (κ + 1) (by omega) (by omega)) ?_
      conv => whnf
      refine IxA_intro i rfl hil ?_
      conv => whnf
      refine getK_intro (get_mid hpl) ?_
      conv => whnf
      refine setK_intro (by rw [List.length_append, List.length_cons]; omega) (set_mid hpl).symm ?_
      conv => whnf
      refine WrK_i64 (by omega) (by omega) ?_
      conv => whnf
      refine IxA_intro i rfl hil ?_
      conv => whnf
      refine getK_intro (get_mid hpl) ?_
      conv => whnf
      refine setK_intro (by rw [List.length_append, List.length_cons]; omega) (set_mid hpl).symm ?_
      conv => whnf
      refine WrK_i64 (by omega) (by omega) ?_
      conv => whnf
      refine IxA_intro i rfl hil ?_
      conv => whnf
      refine getK_intro (get_mid hpl) ?_
      conv => whnf
      refine setK_intro (by rw [List.length_append, List.length_cons]; omega) (set_mid hpl).symm ?_
      conv => whnf
      refine WrK_i64 (by omega) (by omega) ?_
      conv => whnf
      refine IxA_intro i rfl hil ?_
      conv => whnf
      refine getK_intro (get_mid hpl) ?_
      conv => whnf
      refine setK_intro (by rw [List.length_append, List.length_cons]; omega) (set_mid hpl).symm ?_
      conv => whnf
      refine WrK_i64 (by omega) (by omega) ?_
      conv => whnf
      refine WrK_i64 (by omega) (by omega) ?_
      conv => whnf
      refine ⟨i + 1, hlt, Nat.sub_lt_sub_left hlt (Nat.lt_succ_self i), ?_⟩
      dsimp only
      rw [← hκ2, fin]
      rfl
    · have e2 : i = l.length := by omega
      subst e2
      rw [List.drop_of_length_le (Nat.le_refl _), List.map_nil, List.append_nil]
      exact ⟨rfl, rfl, by simp [mkDemandL_len], .one (.d (iD (k + 5 * (l.length : Int)))), ⟨rfl, rfl⟩, rfl, rfl, trivial⟩


set_option maxHeartbeats 4000000 in
theorem c_laws_heldDemandS (n : Nat) (hl : n ≤ 1048576) (k : Int) (h1 : 1 ≤ k) (h2 : k ≤ 50000000) : Contract Try.prog 25 [.d (lD DemandV.dat (mkDemandL k n)), .d (iD k)] (.one (.d (iD (k + 5 * (n : Int))))) := by
  refine contract_by hma hTa Try.func25 (by kernel_rfl) (by kernel_rfl) ?_
  conv => whnf
  have e1 : (List.map DemandV.dat (mkDemandL k n)).length = n := by rw [List.length_map, mkDemandL_len]
  refine LoopK_intro hma hTa [(0, .pl), (1, .pl), (5, .pl)] (fun i : Nat => ⟨[(0, .d (lD DemandV.dat (mkDemandL k n))), (1, .d (iD (k + 5 * (i : Int)))), (5, .d (iD i))], [], []⟩) (fun i => i ≤ n) (fun i => n - i) (by kernel_rfl) ?_ ?_
  · conv => whnf
    refine ⟨0, by omega, ?_⟩
    have : k + 5 * ((0 : Nat) : Int) = k := by omega
    dsimp only
    rw [this]; rfl
  · intro i hi
    conv => whnf
    refine brLt (fun h => ?_) (fun h => ?_) <;> conv => whnf
    · have hlt : i < n := by omega
      have hx := mkDemandL_get k hlt
      have hb : 1 ≤ k + 5 * (i : Int) ∧ k + 5 * (i : Int) ≤ 90000000 := by omega
      have hκ2 : k + 5 * (i : Int) + 1 + 1 + 1 + 1 + 1 = k + 5 * ((i + 1 : Nat) : Int) := by omega
      generalize hκe : k + 5 * (i : Int) = κ at hb hx hκ2 ⊢
      refine IxK_map i rfl hx ?_
      conv => whnf
      refine brNEq (fun _ => ?_) (fun h => absurd rfl h)
      conv => whnf
      refine WrK_i64 (by omega) (by omega) ?_
      conv => whnf
      refine IxK_map i rfl hx ?_
      conv => whnf
      refine CallK_intro (c_laws_markText (κ + 1) (by omega) (by omega)) ?_
      conv => whnf
      refine brNStr (fun _ => ?_) (fun h => absurd rfl h)
      conv => whnf
      refine WrK_i64 (by omega) (by omega) ?_
      conv => whnf
      refine IxK_map i rfl hx ?_
      conv => whnf
      refine brNEq (fun _ => ?_) (fun h => absurd rfl h)
      conv => whnf
      refine WrK_i64 (by omega) (by omega) ?_
      conv => whnf
      refine IxK_map i rfl hx ?_
      conv => whnf
      refine brNEq (fun _ => ?_) (fun h => absurd rfl h)
      conv => whnf
      refine WrK_i64 (by omega) (by omega) ?_
      conv => whnf
      refine IxK_map i rfl hx ?_
      conv => whnf
      refine brNEq (fun _ => ?_) (fun h => absurd rfl h)
      conv => whnf
      refine WrK_i64 (by omega) (by omega) ?_
      conv => whnf
      refine WrK_i64 (by omega) (by omega) ?_
      conv => whnf
      refine ⟨i + 1, hlt, Nat.sub_lt_sub_left hlt (Nat.lt_succ_self i), ?_⟩
      dsimp only
      rw [← hκ2]
      rfl
    · have e2 : i = n := by omega
      rw [e2]


def mkPick (k : Int) : PickV := ⟨mtext (k), mtext (k + 1)⟩
def mkPickL (k : Int) (n : Nat) : List PickV := (List.range n).map fun (i : Nat) => mkPick (k + 2 * (i : Int))
theorem mkPickL_len (k : Int) (n : Nat) : (mkPickL k n).length = n := by simp [mkPickL]
theorem mkPickL_succ (k : Int) (n : Nat) : mkPickL k (n + 1) = mkPickL k n ++ [mkPick (k + 2 * (n : Int))] := by simp [mkPickL, List.range_succ]
theorem mkPickL_get (k : Int) {n i : Nat} (h : i < n) : (mkPickL k n)[i]? = some (mkPick (k + 2 * (i : Int))) := by simp [mkPickL, h]
theorem mkPickL_flat (k : Int) (n : Nat) : FlatL ((mkPickL k n).map PickV.dat) := by
  intro x hx
  obtain ⟨y, _, rfl⟩ := List.mem_map.1 hx
  intro f hf; simp at hf; rcases hf with rfl | rfl <;> exact ⟨_, rfl⟩


set_option maxHeartbeats 4000000 in
theorem c_laws_markPickS (l : List PickV) (hl : l.length ≤ 1048576) (k : Int) (h1 : 1 ≤ k) (h2 : k ≤ 50000000) : LContract Try.prog 49 [.lv, .d (iD k)] (some ⟨134, 2, l.map PickV.dat⟩) (fun r xs => r = .one (.d (iD (k + 2 * (l.length : Int)))) ∧ xs = (mkPickL k l.length).map PickV.dat) := by
  refine contract_byL [] hma hTa Try.func49 (by kernel_rfl) (by kernel_rfl) ?_
  conv => whnf
  have e1 : (List.map PickV.dat l).length = l.length := List.length_map _
  refine LoopK_intro hma hTa [(0, .key 100000), (1, .pl), (5, .pl)] (fun i : Nat => ⟨[(0, .av 100000 (l.map PickV.dat).length), (1, .d (iD (k + 2 * (i : Int)))), (5, .d (iD i))], [(100000, some ⟨134, 2, (mkPickL k i).map PickV.dat ++ (l.drop i).map PickV.dat⟩)], []⟩) (fun i => i ≤ l.length) (fun i => l.length - i) (by kernel_rfl) ?_ ?_
  · conv => whnf
    refine ⟨0, by omega, ?_⟩
    have : k + 2 * ((0 : Nat) : Int) = k := by omega
    dsimp only
    rw [this]; rfl
  · intro i hi
    conv => whnf
    refine brLt (fun h => ?_) (fun h => ?_) <;> conv => whnf
    · have hlt : i < l.length := by omega
      have hil : i < (List.map PickV.dat l).length := by omega
      have hd : (l.drop i).map PickV.dat = PickV.dat (l[i]) :: (l.drop (i + 1)).map PickV.dat := by rw [List.drop_eq_getElem_cons hlt]; rfl
      have hsn := mkPickL_succ k i
      have hpl : ((mkPickL k i).map PickV.dat).length = i := by rw [List.length_map, mkPickL_len]
      have hln : ((mkPickL k i).map PickV.dat ++ PickV.dat (l[i]) :: (l.drop (i + 1)).map PickV.dat).length = l.length := by rw [List.length_append, hpl, List.length_cons, List.length_map, List.length_drop]; omega
      have fin : (mkPickL k (i + 1)).map PickV.dat ++ (l.drop (i + 1)).map PickV.dat = (mkPickL k i).map PickV.dat ++ PickV.dat (mkPick (k + 2 * (i : Int))) :: (l.drop (i + 1)).map PickV.dat := by rw [hsn]; simp
      have hκ : ∀ κ : Int, κ = k + 2 * (i : Int) → κ + 1 + 1 = k + 2 * ((i + 1 : Nat) : Int) := fun κ h => by rw [h]; omega
      rw [hd]
      generalize (mkPickL k i).map PickV.dat = pre at hpl hln fin ⊢
      have hb : 1 ≤ k + 2 * (i : Int) ∧ k + 2 * (i : Int) ≤ 90000000 := by omega
      have hκ2 := hκ _ rfl
      generalize hκe : k + 2 * (i : Int) = κ at hb fin hκ2 ⊢
      have hll : pre.length + (((l.drop (i + 1)).map PickV.dat).length + 1) = l.length := by rw [List.length_append, List.length_cons] at hln; exact hln
      refine CallK_intro (c_laws_markText (κ) (by omega) (by omega)) ?_
      conv => whnf
      refine IxA_intro i rfl hil ?_
      conv => whnf
      refine getK_intro (get_mid hpl) ?_
      conv => whnf
      refine setK_intro (by rw [List.length_append, List.length_cons]; omega) (set_mid hpl).symm ?_
      conv => whnf
      refine WrK_i64 (by omega) (by omega) ?_
      conv => whnf
      refine CallK_intro (c_laws_markText (κ + 1) (by omega) (by omega)) ?_
      conv => whnf
      refine IxA_intro i rfl hil ?_
      conv => whnf
      refine getK_intro (get_mid hpl) ?_
      conv => whnf
      refine setK_intro (by rw [List.length_append, List.length_cons]; omega) (set_mid hpl).symm ?_
      conv => whnf
      refine WrK_i64 (by omega) (by omega) ?_
      conv => whnf
      refine WrK_i64 (by omega) (by omega) ?_
      conv => whnf
      refine ⟨i + 1, hlt, Nat.sub_lt_sub_left hlt (Nat.lt_succ_self i), ?_⟩
      dsimp only
      rw [← hκ2, fin]
      rfl
    · have e2 : i = l.length := by omega
      subst e2
      rw [List.drop_of_length_le (Nat.le_refl _), List.map_nil, List.append_nil]
      exact ⟨rfl, rfl, by simp [mkPickL_len], .one (.d (iD (k + 2 * (l.length : Int)))), ⟨rfl, rfl⟩, rfl, rfl, trivial⟩


set_option maxHeartbeats 4000000 in
theorem c_laws_heldPickS (n : Nat) (hl : n ≤ 1048576) (k : Int) (h1 : 1 ≤ k) (h2 : k ≤ 50000000) : Contract Try.prog 67 [.d (lD PickV.dat (mkPickL k n)), .d (iD k)] (.one (.d (iD (k + 2 * (n : Int))))) := by
  refine contract_by hma hTa Try.func67 (by kernel_rfl) (by kernel_rfl) ?_
  conv => whnf
  have e1 : (List.map PickV.dat (mkPickL k n)).length = n := by rw [List.length_map, mkPickL_len]
  refine LoopK_intro hma hTa [(0, .pl), (1, .pl), (5, .pl)] (fun i : Nat => ⟨[(0, .d (lD PickV.dat (mkPickL k n))), (1, .d (iD (k + 2 * (i : Int)))), (5, .d (iD i))], [], []⟩) (fun i => i ≤ n) (fun i => n - i) (by kernel_rfl) ?_ ?_
  · conv => whnf
    refine ⟨0, by omega, ?_⟩
    have : k + 2 * ((0 : Nat) : Int) = k := by omega
    dsimp only
    rw [this]; rfl
  · intro i hi
    conv => whnf
    refine brLt (fun h => ?_) (fun h => ?_) <;> conv => whnf
    · have hlt : i < n := by omega
      have hx := mkPickL_get k hlt
      have hb : 1 ≤ k + 2 * (i : Int) ∧ k + 2 * (i : Int) ≤ 90000000 := by omega
      have hκ2 : k + 2 * (i : Int) + 1 + 1 = k + 2 * ((i + 1 : Nat) : Int) := by omega
      generalize hκe : k + 2 * (i : Int) = κ at hb hx hκ2 ⊢
      refine IxK_map i rfl hx ?_
      conv => whnf
      refine CallK_intro (c_laws_markText (κ) (by omega) (by omega)) ?_
      conv => whnf
      refine brNStr (fun _ => ?_) (fun h => absurd rfl h)
      conv => whnf
      refine WrK_i64 (by omega) (by omega) ?_
      conv => whnf
      refine IxK_map i rfl hx ?_
      conv => whnf
      refine CallK_intro (c_laws_markText (κ + 1) (by omega) (by omega)) ?_
      conv => whnf
      refine brNStr (fun _ => ?_) (fun h => absurd rfl h)
      conv => whnf
      refine WrK_i64 (by omega) (by omega) ?_
      conv => whnf
      refine WrK_i64 (by omega) (by omega) ?_
      conv => whnf
      refine ⟨i + 1, hlt, Nat.sub_lt_sub_left hlt (Nat.lt_succ_self i), ?_⟩
      dsimp only
      rw [← hκ2]
      rfl
    · have e2 : i = n := by omega
      rw [e2]


def mkNeed (k : Int) : NeedV := ⟨mtext (k), (k + 1)⟩
def mkNeedL (k : Int) (n : Nat) : List NeedV := (List.range n).map fun (i : Nat) => mkNeed (k + 2 * (i : Int))
theorem mkNeedL_len (k : Int) (n : Nat) : (mkNeedL k n).length = n := by simp [mkNeedL]
theorem mkNeedL_succ (k : Int) (n : Nat) : mkNeedL k (n + 1) = mkNeedL k n ++ [mkNeed (k + 2 * (n : Int))] := by simp [mkNeedL, List.range_succ]
theorem mkNeedL_get (k : Int) {n i : Nat} (h : i < n) : (mkNeedL k n)[i]? = some (mkNeed (k + 2 * (i : Int))) := by simp [mkNeedL, h]
theorem mkNeedL_flat (k : Int) (n : Nat) : FlatL ((mkNeedL k n).map NeedV.dat) := by
  intro x hx
  obtain ⟨y, _, rfl⟩ := List.mem_map.1 hx
  intro f hf; simp at hf; rcases hf with rfl | rfl <;> exact ⟨_, rfl⟩


set_option maxHeartbeats 4000000 in
theorem c_laws_markNeedS (l : List NeedV) (hl : l.length ≤ 1048576) (k : Int) (h1 : 1 ≤ k) (h2 : k ≤ 50000000) : LContract Try.prog 55 [.lv, .d (iD k)] (some ⟨146, 2, l.map NeedV.dat⟩) (fun r xs => r = .one (.d (iD (k + 2 * (l.length : Int)))) ∧ xs = (mkNeedL k l.length).map NeedV.dat) := by
  refine contract_byL [] hma hTa Try.func55 (by kernel_rfl) (by kernel_rfl) ?_
  conv => whnf
  have e1 : (List.map NeedV.dat l).length = l.length := List.length_map _
  refine LoopK_intro hma hTa [(0, .key 100000), (1, .pl), (5, .pl)] (fun i : Nat => ⟨[(0, .av 100000 (l.map NeedV.dat).length), (1, .d (iD (k + 2 * (i : Int)))), (5, .d (iD i))], [(100000, some ⟨146, 2, (mkNeedL k i).map NeedV.dat ++ (l.drop i).map NeedV.dat⟩)], []⟩) (fun i => i ≤ l.length) (fun i => l.length - i) (by kernel_rfl) ?_ ?_
  · conv => whnf
    refine ⟨0, by omega, ?_⟩
    have : k + 2 * ((0 : Nat) : Int) = k := by omega
    dsimp only
    rw [this]; rfl
  · intro i hi
    conv => whnf
    refine brLt (fun h => ?_) (fun h => ?_) <;> conv => whnf
    · have hlt : i < l.length := by omega
      have hil : i < (List.map NeedV.dat l).length := by omega
      have hd : (l.drop i).map NeedV.dat = NeedV.dat (l[i]) :: (l.drop (i + 1)).map NeedV.dat := by rw [List.drop_eq_getElem_cons hlt]; rfl
      have hsn := mkNeedL_succ k i
      have hpl : ((mkNeedL k i).map NeedV.dat).length = i := by rw [List.length_map, mkNeedL_len]
      have hln : ((mkNeedL k i).map NeedV.dat ++ NeedV.dat (l[i]) :: (l.drop (i + 1)).map NeedV.dat).length = l.length := by rw [List.length_append, hpl, List.length_cons, List.length_map, List.length_drop]; omega
      have fin : (mkNeedL k (i + 1)).map NeedV.dat ++ (l.drop (i + 1)).map NeedV.dat = (mkNeedL k i).map NeedV.dat ++ NeedV.dat (mkNeed (k + 2 * (i : Int))) :: (l.drop (i + 1)).map NeedV.dat := by rw [hsn]; simp
      have hκ : ∀ κ : Int, κ = k + 2 * (i : Int) → κ + 1 + 1 = k + 2 * ((i + 1 : Nat) : Int) := fun κ h => by rw [h]; omega
      rw [hd]
      generalize (mkNeedL k i).map NeedV.dat = pre at hpl hln fin ⊢
      have hb : 1 ≤ k + 2 * (i : Int) ∧ k + 2 * (i : Int) ≤ 90000000 := by omega
      have hκ2 := hκ _ rfl
      generalize hκe : k + 2 * (i : Int) = κ at hb fin hκ2 ⊢
      have hll : pre.length + (((l.drop (i + 1)).map NeedV.dat).length + 1) = l.length := by rw [List.length_append, List.length_cons] at hln; exact hln
      refine CallK_intro (c_laws_markText (κ) (by omega) (by omega)) ?_
      conv => whnf
      refine IxA_intro i rfl hil ?_
      conv => whnf
      refine getK_intro (get_mid hpl) ?_
      conv => whnf
      refine setK_intro (by rw [List.length_append, List.length_cons]; omega) (set_mid hpl).symm ?_
      conv => whnf
      refine WrK_i64 (by omega) (by omega) ?_
      conv => whnf
      refine IxA_intro i rfl hil ?_
      conv => whnf
      refine getK_intro (get_mid hpl) ?_
      conv => whnf
      refine setK_intro (by rw [List.length_append, List.length_cons]; omega) (set_mid hpl).symm ?_
      conv => whnf
      refine WrK_i64 (by omega) (by omega) ?_
      conv => whnf
      refine WrK_i64 (by omega) (by omega) ?_
      conv => whnf
      refine ⟨i + 1, hlt, Nat.sub_lt_sub_left hlt (Nat.lt_succ_self i), ?_⟩
      dsimp only
      rw [← hκ2, fin]
      rfl
    · have e2 : i = l.length := by omega
      subst e2
      rw [List.drop_of_length_le (Nat.le_refl _), List.map_nil, List.append_nil]
      exact ⟨rfl, rfl, by simp [mkNeedL_len], .one (.d (iD (k + 2 * (l.length : Int)))), ⟨rfl, rfl⟩, rfl, rfl, trivial⟩


set_option maxHeartbeats 4000000 in
theorem c_laws_heldNeedS (n : Nat) (hl : n ≤ 1048576) (k : Int) (h1 : 1 ≤ k) (h2 : k ≤ 50000000) : Contract Try.prog 56 [.d (lD NeedV.dat (mkNeedL k n)), .d (iD k)] (.one (.d (iD (k + 2 * (n : Int))))) := by
  refine contract_by hma hTa Try.func56 (by kernel_rfl) (by kernel_rfl) ?_
  conv => whnf
  have e1 : (List.map NeedV.dat (mkNeedL k n)).length = n := by rw [List.length_map, mkNeedL_len]
  refine LoopK_intro hma hTa [(0, .pl), (1, .pl), (5, .pl)] (fun i : Nat => ⟨[(0, .d (lD NeedV.dat (mkNeedL k n))), (1, .d (iD (k + 2 * (i : Int)))), (5, .d (iD i))], [], []⟩) (fun i => i ≤ n) (fun i => n - i) (by kernel_rfl) ?_ ?_
  · conv => whnf
    refine ⟨0, by omega, ?_⟩
    have : k + 2 * ((0 : Nat) : Int) = k := by omega
    dsimp only
    rw [this]; rfl
  · intro i hi
    conv => whnf
    refine brLt (fun h => ?_) (fun h => ?_) <;> conv => whnf
    · have hlt : i < n := by omega
      have hx := mkNeedL_get k hlt
      have hb : 1 ≤ k + 2 * (i : Int) ∧ k + 2 * (i : Int) ≤ 90000000 := by omega
      have hκ2 : k + 2 * (i : Int) + 1 + 1 = k + 2 * ((i + 1 : Nat) : Int) := by omega
      generalize hκe : k + 2 * (i : Int) = κ at hb hx hκ2 ⊢
      refine IxK_map i rfl hx ?_
      conv => whnf
      refine CallK_intro (c_laws_markText (κ) (by omega) (by omega)) ?_
      conv => whnf
      refine brNStr (fun _ => ?_) (fun h => absurd rfl h)
      conv => whnf
      refine WrK_i64 (by omega) (by omega) ?_
      conv => whnf
      refine IxK_map i rfl hx ?_
      conv => whnf
      refine brNEq (fun _ => ?_) (fun h => absurd rfl h)
      conv => whnf
      refine WrK_i64 (by omega) (by omega) ?_
      conv => whnf
      refine WrK_i64 (by omega) (by omega) ?_
      conv => whnf
      refine ⟨i + 1, hlt, Nat.sub_lt_sub_left hlt (Nat.lt_succ_self i), ?_⟩
      dsimp only
      rw [← hκ2]
      rfl
    · have e2 : i = n := by omega
      rw [e2]


def mkCondNode (k : Int) : NodeV := ⟨(k), mtext (k + 1), mtext (k + 1 + 1)⟩
def mkCondNodeL (k : Int) (n : Nat) : List NodeV := (List.range n).map fun (i : Nat) => mkCondNode (k + 3 * (i : Int))
theorem mkCondNodeL_len (k : Int) (n : Nat) : (mkCondNodeL k n).length = n := by simp [mkCondNodeL]
theorem mkCondNodeL_succ (k : Int) (n : Nat) : mkCondNodeL k (n + 1) = mkCondNodeL k n ++ [mkCondNode (k + 3 * (n : Int))] := by simp [mkCondNodeL, List.range_succ]
theorem mkCondNodeL_get (k : Int) {n i : Nat} (h : i < n) : (mkCondNodeL k n)[i]? = some (mkCondNode (k + 3 * (i : Int))) := by simp [mkCondNodeL, h]
theorem mkCondNodeL_flat (k : Int) (n : Nat) : FlatL ((mkCondNodeL k n).map NodeV.dat) := by
  intro x hx
  obtain ⟨y, _, rfl⟩ := List.mem_map.1 hx
  intro f hf; simp at hf; rcases hf with rfl | rfl | rfl <;> exact ⟨_, rfl⟩


set_option maxHeartbeats 4000000 in
theorem c_laws_markCondNodeS (l : List NodeV) (hl : l.length ≤ 1048576) (k : Int) (h1 : 1 ≤ k) (h2 : k ≤ 50000000) : LContract Try.prog 100 [.lv, .d (iD k)] (some ⟨176, 3, l.map NodeV.dat⟩) (fun r xs => r = .one (.d (iD (k + 3 * (l.length : Int)))) ∧ xs = (mkCondNodeL k l.length).map NodeV.dat) := by
  refine contract_byL [] hma hTa Try.func100 (by kernel_rfl) (by kernel_rfl) ?_
  conv => whnf
  have e1 : (List.map NodeV.dat l).length = l.length := List.length_map _
  refine LoopK_intro hma hTa [(0, .key 100000), (1, .pl), (5, .pl)] (fun i : Nat => ⟨[(0, .av 100000 (l.map NodeV.dat).length), (1, .d (iD (k + 3 * (i : Int)))), (5, .d (iD i))], [(100000, some ⟨176, 3, (mkCondNodeL k i).map NodeV.dat ++ (l.drop i).map NodeV.dat⟩)], []⟩) (fun i => i ≤ l.length) (fun i => l.length - i) (by kernel_rfl) ?_ ?_
  · conv => whnf
    refine ⟨0, by omega, ?_⟩
    have : k + 3 * ((0 : Nat) : Int) = k := by omega
    dsimp only
    rw [this]; rfl
  · intro i hi
    conv => whnf
    refine brLt (fun h => ?_) (fun h => ?_) <;> conv => whnf
    · have hlt : i < l.length := by omega
      have hil : i < (List.map NodeV.dat l).length := by omega
      have hd : (l.drop i).map NodeV.dat = NodeV.dat (l[i]) :: (l.drop (i + 1)).map NodeV.dat := by rw [List.drop_eq_getElem_cons hlt]; rfl
      have hsn := mkCondNodeL_succ k i
      have hpl : ((mkCondNodeL k i).map NodeV.dat).length = i := by rw [List.length_map, mkCondNodeL_len]
      have hln : ((mkCondNodeL k i).map NodeV.dat ++ NodeV.dat (l[i]) :: (l.drop (i + 1)).map NodeV.dat).length = l.length := by rw [List.length_append, hpl, List.length_cons, List.length_map, List.length_drop]; omega
      have fin : (mkCondNodeL k (i + 1)).map NodeV.dat ++ (l.drop (i + 1)).map NodeV.dat = (mkCondNodeL k i).map NodeV.dat ++ NodeV.dat (mkCondNode (k + 3 * (i : Int))) :: (l.drop (i + 1)).map NodeV.dat := by rw [hsn]; simp
      have hκ : ∀ κ : Int, κ = k + 3 * (i : Int) → κ + 1 + 1 + 1 = k + 3 * ((i + 1 : Nat) : Int) := fun κ h => by rw [h]; omega
      rw [hd]
      generalize (mkCondNodeL k i).map NodeV.dat = pre at hpl hln fin ⊢
      have hb : 1 ≤ k + 3 * (i : Int) ∧ k + 3 * (i : Int) ≤ 90000000 := by omega
      have hκ2 := hκ _ rfl
      generalize hκe : k + 3 * (i : Int) = κ at hb fin hκ2 ⊢
      have hll : pre.length + (((l.drop (i + 1)).map NodeV.dat).length + 1) = l.length := by rw [List.length_append, List.length_cons] at hln; exact hln
      refine IxA_intro i rfl hil ?_
      conv => whnf
      refine getK_intro (get_mid hpl) ?_
      conv => whnf
      refine setK_intro (by rw [List.length_append, List.length_cons]; omega) (set_mid hpl).symm ?_
      conv => whnf
      refine WrK_i64 (by omega) (by omega) ?_
      conv => whnf
      refine CallK_intro (c_laws_markText (κ + 1) (by omega) (by omega)) ?_
      conv => whnf
      refine IxA_intro i rfl hil ?_
      conv => whnf
      refine getK_intro (get_mid hpl) ?_
      conv => whnf
      refine setK_intro (by rw [List.length_append, List.length_cons]; omega) (set_mid hpl).symm ?_
      conv => whnf
      refine WrK_i64 (by omega) (by omega) ?_
      conv => whnf
      refine CallK_intro (c_laws_markText (κ + 1 + 1) (by omega) (by omega)) ?_
      conv => whnf
      refine IxA_intro i rfl hil ?_
      conv => whnf
      refine getK_intro (get_mid hpl) ?_
      conv => whnf
      refine setK_intro (by rw [List.length_append, List.length_cons]; omega) (set_mid hpl).symm ?_
      conv => whnf
      refine WrK_i64 (by omega) (by omega) ?_
      conv => whnf
      refine WrK_i64 (by omega) (by omega) ?_
      conv => whnf
      refine ⟨i + 1, hlt, Nat.sub_lt_sub_left hlt (Nat.lt_succ_self i), ?_⟩
      dsimp only
      rw [← hκ2, fin]
      rfl
    · have e2 : i = l.length := by omega
      subst e2
      rw [List.drop_of_length_le (Nat.le_refl _), List.map_nil, List.append_nil]
      exact ⟨rfl, rfl, by simp [mkCondNodeL_len], .one (.d (iD (k + 3 * (l.length : Int)))), ⟨rfl, rfl⟩, rfl, rfl, trivial⟩


end Go.DL
