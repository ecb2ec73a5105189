/- The statement FnExactIsChoiceSaid: the law returns true for every input that can be read as data, and each argument reads afterwards as it read before. No conditions. -/
import Derived.Test.YtjhjedfnjimflaaM
import Derived.Test.YtjhjedfnjimflaaW
import Derived.ProofKit
namespace Go.DL
set_option maxRecDepth 100000
set_option maxHeartbeats 2000000
set_option linter.unusedSimpArgs false
set_option linter.unusedVariables false
open Go.RowKit Go.Proofs Go.Proofs.Ytjhjedfnjimflaa

set_option maxHeartbeats 4000000 in
theorem law_FnExactIsChoice : ∀ xs, HasTys [ModelV.ty, .sl PickV.ty] xs → Contract Try.prog 5 (xs.map .d) (.one (.d (.sc (.bool true)))) := by
  intro xs h
  obtain ⟨d0, r0, rfl, h0, g0⟩ := HasTys_cons h
  obtain ⟨a0, rfl, k0⟩ := ModelV.dec h0
  obtain ⟨d1, r1, rfl, h1, g1⟩ := HasTys_cons g0
  obtain ⟨a1, rfl, k1⟩ := sl_dec (fun _ => PickV.dec) h1
  have k1 : okL PickV.ok a1 := k1
  cases HasTys_nil g1
  clear h0 h1
  refine contract_by hma hTa Try.func5 (by kernel_rfl) (by kernel_rfl) ?_
  conv => whnf
  repeat' first
    | (refine brLt (fun h => ?_) (fun h => ?_) <;> conv => whnf)
    | (refine brLe (fun h => ?_) (fun h => ?_) <;> conv => whnf)
    | (refine brEq (fun h => ?_) (fun h => ?_) <;> conv => whnf)
    | (refine brTr (fun h => ?_) (fun h => ?_) <;> conv => whnf)
    | (refine brNTr (fun h => ?_) (fun h => ?_) <;> conv => whnf)
    | (refine brNLt (fun h => ?_) (fun h => ?_) <;> conv => whnf)
    | (refine brNLe (fun h => ?_) (fun h => ?_) <;> conv => whnf)
    | (refine brNEq (fun h => ?_) (fun h => ?_) <;> conv => whnf)
    | (refine brStr (fun h => ?_) (fun h => ?_) <;> conv => whnf)
    | (refine brNStr (fun h => ?_) (fun h => ?_) <;> conv => whnf)
    | (refine brStrLt (fun h => ?_) (fun h => ?_) <;> conv => whnf)
    | (refine brNStrLt (fun h => ?_) (fun h => ?_) <;> conv => whnf)
    | (refine brNBEq (fun h => ?_) (fun h => ?_) <;> conv => whnf)
    | (refine brBEq (fun h => ?_) (fun h => ?_) <;> conv => whnf)
    | (refine CallK_sz (c_laws_szModel _ _ (by omega) (by omega) (by assumption)) (fun hc => ?_) (fun hc => ?_) <;> conv => whnf)
    | (refine CallK_intro (c_laws_toModel _ (by assumption) (by omega)) ?_; conv => whnf)
    | (refine CallK_intro (c_laws_eqModel _ _ (by assumption) (by assumption)) ?_; conv => whnf)
    | (refine CallK_sz (c_laws_szPickS _ _ (by omega) (by omega) (by assumption)) (fun hc => ?_) (fun hc => ?_) <;> conv => whnf)
    | (refine CallK_intro (c_laws_toPickS _ (by omega) (And.right (by assumption))) ?_; conv => whnf)
    | (refine CallK_intro (c_laws_eqPickS _ _ (by assumption) (by assumption)) ?_; conv => whnf)
    | (refine CallK_intro (c_spec_IsChoice _ (by assumption) _ (by assumption)) ?_; conv => whnf)
    | (refine CallK_intro (c_impl_IsChoice _ (by assumption) _ (by assumption)) ?_; conv => whnf)
    | (refine WrK_i64 (by omega) (by omega) ?_; conv => whnf)
    | (refine takeK_full (by first | exact rfl | exact (List.length_map _).symm | exact List.length_map _ | omega) ?_; conv => whnf)
    | (refine StrK_intro _ rfl (by assumption) ?_; conv => whnf)
    | (refine IxK_map _ rfl (by assumption) ?_; conv => whnf)
    | (refine StrK_lt _ rfl (by omega) (fun b hb => ?_); conv => whnf)
    | (refine IxK_mapLt _ rfl (by (try simp only [List.length_map] at *); omega) (fun x hx => ?_); conv => whnf)
    | (refine IxK_mapI (by omega) (by (try simp only [List.length_map] at *); omega) (fun j x hj hx => ?_); conv => whnf)
    | (refine NeedK_intro (by omega) ?_; conv => whnf)
  all_goals first | exact rfl | contradiction | (exfalso; simp_all; done)
end Go.DL
namespace Go.Proofs.Ytjhjedfnjimflaa
open Go.ChangeShapes Go.WideShapes Go.ChangeAt Go.RowKit
theorem Try.cpD : Try.checked.prog = Try.prog := by kernel_rfl
theorem Try.ownD : ownKnob Try.checked.prog.godebug = none := by kernel_rfl
theorem Try.laidOutD : laidOutB Try.checked.prog = true := by kernel_rfl
theorem Try.lawD : ∀ xs, DL.HasTys [DL.ModelV.ty, .sl DL.PickV.ty] xs → DL.Contract Try.checked.prog 5 (xs.map .d) (.one (.d (.sc (.bool true)))) := by rw [Try.cpD]; exact DL.law_FnExactIsChoice
theorem fnExactIsChoice_lifted (os : Os) (started : os.Started) (H : Type) (enc : TypeId × Value → H) :
    ReturnsInHanded {} Try.checked os 5 .any (Rows.fnExactIsChoiceSpec.pre6 enc Try.checked.prog Try.f5 Rows.fnExactIsChoiceRow.domain false) (Rows.fnExactIsChoiceSpec.post enc Try.checked.prog Try.f5 false true false false) := by
  refine returnsInHanded_of_change (C := Try.checked) Try.ownD started (by kernel_rfl) Try.func5
    (ChangeSpec.witness6 (enc := enc) (C := Try.checked) false ⟨#[], #[.agg #[.slice none 0 0, .slice none 0 0], .slice none 0 0], []⟩ 8 (by kernel_rfl) (by kernel_rfl) (by kernel_rfl) (by kernel_rfl)) ?_
  intro W base args ds gs before hval0 hW0 _ _
  exact DL.law_calls (P := Try.checked.prog) (fn := Try.f5) (s := Rows.fnExactIsChoiceSpec) (ts := [47, 48]) (tb := 4) (tys := [DL.ModelV.ty, .sl DL.PickV.ty]) (by kernel_rfl) (by kernel_rfl) (by kernel_rfl) rfl
    (fun ds h => match ds, h with | [d0, d1], _ => rfl) Try.laidOutD (by kernel_rfl) Try.lawD W base args ds gs before @hval0 hW0
/-- The law returns true, whatever comes in. -/
theorem FnExactIsChoice_holds : Rows.FnExactIsChoiceSaid :=
  OpenClaim.holds_of_wide 5 Try.f5 rfl rfl rfl rfl rfl rfl rfl ⟨rfl, rfl, rfl, rfl, rfl⟩ rfl rfl rfl rfl rfl (by kernel_rfl) Try.func5 (by kernel_rfl)
    (of_decide_eq_true (by kernel_rfl)) (by unfold Func.isWrapper; first | (rw [if_pos (by decide +kernel)]; kernel_rfl) | (rw [if_neg (by decide +kernel)]; exact ⟨rfl, rfl⟩))
    (fun os started H enc _ => fnExactIsChoice_lifted os started H enc)
end Go.Proofs.Ytjhjedfnjimflaa
namespace Go.DL

end Go.DL
