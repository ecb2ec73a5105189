/- The statement FnExactConflictsSaid: the law returns true for every input that can be read as data, and each argument reads afterwards as it read before. No conditions. -/
import Derived.Test.YthfagmoaoihhpaaQ4
import Derived.ProofKit
namespace Go.DL
set_option maxRecDepth 100000
set_option maxHeartbeats 2000000
set_option linter.unusedSimpArgs false
set_option linter.unusedVariables false
open Go.RowKit Go.Proofs Go.Proofs.Ythfagmoaoihhpaa

set_option maxHeartbeats 8000000 in
theorem law0_FnConflicts (b : List Int) (hb1 : b.length ≤ 9223372036854775807) (hb2 : ∀ n ∈ b, 0 ≤ n ∧ n ≤ 255) : Contract Try.prog 3 [.d (lD yD b)] (.one (.d (.sc (.bool true)))) := by
  refine contract_byR [14, 200000 + 6] hma hTa Try.func3 (by kernel_rfl) (by kernel_rfl) ?_
  conv => whnf
  refine CallK_tr (c_laws_big b hb1) (fun h => ?_) (fun h => ?_) <;> conv => whnf
  refine DCallK_intro (c_spec_DrawConflictOf b (by omega) hb2) ?_
  rintro res _ ⟨m, p, hm, hp, hp5, rfl⟩
  conv => whnf
  refine CallK_intro (c_impl_ConflictOfV m hm p hp) ?_
  conv => whnf
  refine CallK_intro (c_impl_CompleteChoiceV m hm p hp) ?_
  conv => whnf
  refine CallK_tr (c_spec_IsPartial _ hm _ hp) (fun hpa => ?_) (fun hpa => ?_) <;> conv => whnf
  rotate_left
  · have hn : ¬ conflictP m p := fun h => hpa h.1
    rw [show confV m p = [] from ifP_f hn, tr_f hn]
    exact congrArg (fun b => D.sc (.bool b)) (eqB_iff.2 rfl)
  refine brTr (fun hcp => ?_) (fun hcp => ?_) <;> conv => whnf
  · have hn : ¬ conflictP m p := fun h => h.2 hcp
    rw [show confV m p = [] from ifP_f hn, tr_f hn]
    exact congrArg (fun b => D.sc (.bool b)) (eqB_iff.2 rfl)
  have hcf : conflictP m p := ⟨hpa, hcp⟩
  obtain ⟨l1, l2, l3, l4⟩ := conf_law hcf
  obtain ⟨hlo, hll⟩ := confV_ok m hm p hp
  rw [tr_t hcf]
  generalize confV m p = l at l1 l2 l3 l4 hlo hll ⊢
  have e1 : (List.map PickV.dat l).length = l.length := List.length_map _
  conv => whnf
  refine takeK_full rfl ?_
  conv => whnf
  refine CallK_intro (c_spec_CompleteChoiceV m hm l hlo) ?_
  rw [tr_f l2]
  conv => whnf
  refine takeK_full rfl ?_
  conv => whnf
  refine CallK_intro (c_laws_contains p hp l hlo) ?_
  rw [tr_t (show conP l p from l3)]
  conv => whnf
  refine LoopK_introR [14, 200000 + 6] hma hTa [(3, .key 3), (5, .fz), (11, .pl)] (fun i : Nat => ⟨[(3, .ae 3 0), (5, .d (lD PickV.dat l)), (11, .d (iD i))], [(3, some ⟨27, 2, [m.dat]⟩)], []⟩) (fun i => i ≤ l.length) (fun i => l.length - i) (by kernel_rfl) ?_ ?_
  · conv => whnf
    refine takeK_full rfl ?_
    conv => whnf
    exact ⟨0, by omega, rfl⟩
  intro i hi
  conv => whnf
  refine brLt (fun h1 => ?_) (fun h1 => ?_) <;> conv => whnf
  have hil : i < l.length := by omega
  have hlE : (l.eraseIdx i).length = l.length - 1 := List.length_eraseIdx_of_lt hil
  have hfree := l4 i hil
  refine SlK_intro 0 i rfl rfl (by omega) (by omega) (fun y hy => by obtain ⟨x, _, rfl⟩ := List.mem_map.1 hy; rfl) (zs := (l.take i).map PickV.dat) (by rw [List.drop_zero, List.map_take]) ?_
  conv => whnf
  refine AppK_intro (n := i) (xs' := (l.take i).map PickV.dat) (by simp; omega) (by simp) (by omega) (fun y hy => by obtain ⟨x, _, rfl⟩ := List.mem_map.1 hy; rfl) ?_
  conv => whnf
  refine WrK_i64 (by omega) (by omega) ?_
  conv => whnf
  refine SlK_intro (i + 1) l.length (by simp) (by simp) (by omega) (by simp) (fun y hy => by obtain ⟨x, _, rfl⟩ := List.mem_map.1 hy; rfl) (zs := (l.drop (i + 1)).map PickV.dat) (by rw [List.take_of_length_le (by simp), List.map_drop]) ?_
  conv => whnf
  refine AppK_intro (n := (l.eraseIdx i).length) (xs' := (l.eraseIdx i).map PickV.dat) (by rw [hlE]; simp; omega) (by rw [List.take_of_length_le (by simp; omega), ← List.map_append, erase_split]) (by omega) (fun y hy => by obtain ⟨x, _, rfl⟩ := List.mem_map.1 hy; rfl) ?_
  conv => whnf
  refine takeK_full (by simp) ?_
  conv => whnf
  refine CallK_intro (c_spec_CompleteChoiceV m hm (l.eraseIdx i) (erase_ok hlo i)) ?_
  rw [tr_t hfree]
  conv => whnf
  refine KeysK_intro (by kernel_rfl) ?_
  conv => whnf
  refine WrK_i64 (by omega) (by omega) ?_
  conv => whnf
  exact ⟨i + 1, hil, Nat.sub_lt_sub_left hil (Nat.lt_succ_self i), rfl⟩


theorem bytes_dec {x : D} (h : HasTy (.sl .u8) x) : ∃ b : List Int, x = lD yD b ∧ b.length ≤ 9223372036854775807 ∧ ∀ n ∈ b, 0 ≤ n ∧ n ≤ 255 := by
  obtain ⟨b, e, h1, h2⟩ := sl_dec (f := yD) (ok := fun n => 0 ≤ n ∧ n ≤ 255) (e := .u8) (fun y hy => by cases hy with | u8 n lo hi => exact ⟨n, rfl, lo, hi⟩) h
  exact ⟨b, e, h1, h2⟩
theorem law_FnConflicts : ∀ xs, HasTys [.sl .u8] xs → Contract Try.prog 3 (xs.map .d) (.one (.d (.sc (.bool true)))) := by
  intro xs h
  obtain ⟨d0, r0, rfl, h0, g0⟩ := HasTys_cons h
  cases HasTys_nil g0
  obtain ⟨b, rfl, hb1, hb2⟩ := bytes_dec h0
  exact law0_FnConflicts b hb1 hb2
end Go.DL
namespace Go.Proofs.Ythfagmoaoihhpaa
open Go.ChangeShapes Go.WideShapes Go.ChangeAt Go.RowKit
theorem Try.cpD : Try.checked.prog = Try.prog := by kernel_rfl
theorem Try.ownD : ownKnob Try.checked.prog.godebug = none := by kernel_rfl
theorem Try.laidOutD : laidOutB Try.checked.prog = true := by kernel_rfl
theorem Try.lawD : ∀ xs, DL.HasTys [.sl .u8] xs → DL.Contract Try.checked.prog 3 (xs.map .d) (.one (.d (.sc (.bool true)))) := by rw [Try.cpD]; exact DL.law_FnConflicts
theorem fnConflicts_lifted (os : Os) (started : os.Started) (H : Type) (enc : TypeId × Value → H) :
    ReturnsInHanded {} Try.checked os 3 .any (Rows.fnConflictsSpec.pre6 enc Try.checked.prog Try.f3 Rows.fnConflictsRow.domain false) (Rows.fnConflictsSpec.post enc Try.checked.prog Try.f3 false true false false) := by
  refine returnsInHanded_of_change (C := Try.checked) Try.ownD started (by kernel_rfl) Try.func3
    (ChangeSpec.witness6 (enc := enc) (C := Try.checked) false ⟨#[], #[.slice none 0 0], []⟩ 8 (by kernel_rfl) (by kernel_rfl) (by kernel_rfl) (by kernel_rfl)) ?_
  intro W base args ds gs before hval0 hW0 _ _
  exact DL.law_calls (P := Try.checked.prog) (fn := Try.f3) (s := Rows.fnConflictsSpec) (ts := [22]) (tb := 4) (tys := [.sl .u8]) (by kernel_rfl) (by kernel_rfl) (by kernel_rfl) rfl
    (fun ds h => match ds, h with | [d0], _ => rfl) Try.laidOutD (by kernel_rfl) Try.lawD W base args ds gs before @hval0 hW0
/-- The law returns true, whatever comes in. -/
theorem FnConflicts_holds : Rows.FnConflictsSaid :=
  OpenClaim.holds_of_wide 3 Try.f3 rfl rfl rfl rfl rfl rfl rfl ⟨rfl, rfl, rfl, rfl, rfl⟩ rfl rfl rfl rfl rfl (by kernel_rfl) Try.func3 (by kernel_rfl)
    (of_decide_eq_true (by kernel_rfl)) (by unfold Func.isWrapper; first | (rw [if_pos (by decide +kernel)]; kernel_rfl) | (rw [if_neg (by decide +kernel)]; exact ⟨rfl, rfl⟩))
    (fun os started H enc _ => fnConflicts_lifted os started H enc)
end Go.Proofs.Ythfagmoaoihhpaa
namespace Go.DL

end Go.DL
