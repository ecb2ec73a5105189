/- Contracts of functions of the program, at this seat: what each call returns, by its arguments as data; each states its own conditions. -/
import Derived.Test.YthifncefbpmdiaaPD
namespace Go.DL
set_option maxRecDepth 100000
set_option maxHeartbeats 2000000
set_option linter.unusedSimpArgs false
set_option linter.unusedVariables false
open Go.RowKit Go.Proofs Go.Proofs.Ythifncefbpmdiaa

/-! The needs of an explosion. -/
open Classical in
noncomputable def needL (cat : List ItemV) (P : ItemV → Prop) (N : Nat → Int) : Nat → List NeedV
  | 0 => []
  | k + 1 => needL cat P N k ++ (match cat[k]? with
    | some y => if 0 < N k ∧ P y then [⟨y.code, N k⟩] else []
    | none => [])
theorem need_y {cat : List ItemV} {P : ItemV → Prop} {N : Nat → Int} {k : Nat} {y : ItemV} (hy : cat[k]? = some y) (h : 0 < N k ∧ P y) : needL cat P N (k + 1) = needL cat P N k ++ [⟨y.code, N k⟩] := by
  rw [needL, hy]; dsimp only; rw [if_pos h]
theorem need_n {cat : List ItemV} {P : ItemV → Prop} {N : Nat → Int} {k : Nat} {y : ItemV} (hy : cat[k]? = some y) (h : ¬ (0 < N k ∧ P y)) : needL cat P N (k + 1) = needL cat P N k := by
  rw [needL, hy]; dsimp only; rw [if_neg h, List.append_nil]
open Classical in
theorem need_len {cat : List ItemV} {P : ItemV → Prop} {N : Nat → Int} : ∀ k, (needL cat P N k).length ≤ k
  | 0 => Nat.le_refl _
  | k + 1 => by
    have := need_len (cat := cat) (P := P) (N := N) k
    rw [needL, List.length_append]
    have h2 : (match cat[k]? with
      | some y => if 0 < N k ∧ P y then [(⟨y.code, N k⟩ : NeedV)] else []
      | none => []).length ≤ 1 := by
      split
      · split <;> simp
      · simp
    omega

theorem c_impl_needs (cat : List ItemV) (hc : okL ItemV.ok cat) (h12 : cat.length ≤ 12) (N M : Nat → Int) (f : FuncId) (P Q : ItemV → Prop) (hf : ∀ x : ItemV, x.ok → Contract Try.prog f [.d x.dat] (.one (.d (bD (tr (P x))))))
    (hM : ∀ k y, cat[k]? = some y → (0 < M k ∧ P y ↔ 0 < N k ∧ Q y) ∧ (0 < N k ∧ Q y → M k = N k)) :
    Contract Try.prog 112 [.d (lD ItemV.dat cat), .d (.sl (arrF cat.length M)), .fn f] (.one (.own ⟨146, 2, (needL cat Q N cat.length).map NeedV.dat⟩)) := by
  refine contract_by hma hTa Try.func112 (by kernel_rfl) (by kernel_rfl) ?_
  have e1 : (List.map ItemV.dat cat).length = cat.length := List.length_map _
  conv => whnf
  refine LoopK_intro hma hTa [(0, .pl), (1, .pl), (2, .pl), (7, .key 7), (11, .pl), (12, .pl), (13, .pl)] (fun i : Nat => ⟨[(0, .d (lD ItemV.dat cat)), (1, .d (.sl (arrF cat.length M))), (2, .fn f), (7, .av 7 (needL cat Q N i).length), (11, .d (lD ItemV.dat cat)), (12, .d (iD (cat.map ItemV.dat).length)), (13, .d (iD i))], [(7, some ⟨146, 2, (needL cat Q N i).map NeedV.dat⟩)], []⟩) (fun i => i ≤ cat.length) (fun i => cat.length - i) (by kernel_rfl) ?_ ?_
  · conv => whnf
    exact ⟨0, by omega, rfl⟩
  · intro i hi
    conv => whnf
    refine brLt (fun h => ?_) (fun h => ?_) <;> conv => whnf
    · refine IxK_mapLt _ rfl (by omega) (fun y hy => ?_)
      conv => whnf
      have hil := get_lt hy
      have hnl := need_len (cat := cat) (P := Q) (N := N) i
      have hMk := hM i y hy
      refine IxK_arrF i rfl hil ?_
      conv => whnf
      refine brLt (fun h1 => ?_) (fun h1 => ?_) <;> conv => whnf
      rotate_left
      · have hy2 := need_n hy (fun h => by have := hMk.1.2 h; omega)
        refine WrK_i64 (by omega) (by omega) ?_
        conv => whnf
        exact ⟨i + 1, hil, Nat.sub_lt_sub_left hil (Nat.lt_succ_self i), by dsimp only; rw [hy2]; rfl⟩
      refine CallK_tr (hf y (hc.2 y (get_mem hy))) (fun h2 => ?_) (fun h2 => ?_) <;> conv => whnf
      rotate_left
      · have hy2 := need_n hy (fun h => h2 (hMk.1.2 h).2)
        refine WrK_i64 (by omega) (by omega) ?_
        conv => whnf
        exact ⟨i + 1, hil, Nat.sub_lt_sub_left hil (Nat.lt_succ_self i), by dsimp only; rw [hy2]; rfl⟩
      have h3 := hMk.1.1 ⟨h1, h2⟩
      have hy2 := need_y hy h3
      refine IxK_arrF i rfl hil ?_
      conv => whnf
      rw [hMk.2 h3]
      refine AppK_intro (n := (needL cat Q N i).length + 1) (xs' := (needL cat Q N (i + 1)).map NeedV.dat) rfl (by rw [hy2]; exact app_one rfl) (by omega) (by simp [NeedV.dat, D.width, Ty.width]) ?_
      conv => whnf
      refine WrK_i64 (by omega) (by omega) ?_
      conv => whnf
      exact ⟨i + 1, hil, Nat.sub_lt_sub_left hil (Nat.lt_succ_self i), by dsimp only; rw [hy2, List.length_append]; rfl⟩
    · have ei : i = cat.length := by omega
      subst ei
      exact ⟨rfl, rfl, by simp, rfl⟩

end Go.DL
