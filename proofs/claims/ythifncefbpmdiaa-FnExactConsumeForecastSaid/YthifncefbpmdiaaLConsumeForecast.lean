/- The statement FnExactConsumeForecastSaid: the law returns true for every input that can be read as data, and each argument reads afterwards as it read before. No conditions. -/
import Derived.Test.YthifncefbpmdiaaM
import Derived.Test.YthifncefbpmdiaaS4
import Derived.ProofKit
namespace Go.DL
set_option maxRecDepth 100000
set_option maxHeartbeats 2000000
set_option linter.unusedSimpArgs false
set_option linter.unusedVariables false
open Go.RowKit Go.Proofs Go.Proofs.Ythifncefbpmdiaa

set_option maxHeartbeats 8000000 in
theorem law_FnExactConsumeForecast : ∀ xs, HasTys [.sl DemandV.ty, .sl DemandV.ty, .int, .int] xs → Contract Try.prog 6 (xs.map .d) (.one (.d (.sc (.bool true)))) := by
  intro xs h
  obtain ⟨d0, r0, rfl, h0, g0⟩ := HasTys_cons h
  obtain ⟨a0, rfl, k0⟩ := sl_dec (fun _ => DemandV.dec) h0
  have k0 : okL DemandV.ok a0 := k0
  obtain ⟨d1, r1, rfl, h1, g1⟩ := HasTys_cons g0
  obtain ⟨a1, rfl, k1⟩ := sl_dec (fun _ => DemandV.dec) h1
  have k1 : okL DemandV.ok a1 := k1
  obtain ⟨d2, r2, rfl, h2, g2⟩ := HasTys_cons g1
  obtain ⟨a2, rfl, k2⟩ := int_dec h2
  obtain ⟨d3, r3, rfl, h3, g3⟩ := HasTys_cons g2
  obtain ⟨a3, rfl, k3⟩ := int_dec h3
  cases HasTys_nil g3
  clear h0 h1 h2 h3
  have lw0 := wtL_len (wt := DemandV.wt) (l := a0)
  have lw1 := wtL_len (wt := DemandV.wt) (l := a1)
  have hr := cons_ok (o := a1) (back := a2) (ahead := a3) k0
  have hrl := cons_len a0 a1 a2 a3
  have hl0 := k0.1
  have hl1 := k1.1
  refine contract_byR [100000 + 24] hma hTa Try.func6 (by kernel_rfl) (by kernel_rfl) ?_
  conv => whnf
  repeat' first
    | (refine brLt (fun h => ?_) (fun h => ?_) <;> conv => whnf)
    | (refine brLe (fun h => ?_) (fun h => ?_) <;> conv => whnf)
    | (refine brEq (fun h => ?_) (fun h => ?_) <;> conv => whnf)
    | (refine brTr (fun h => ?_) (fun h => ?_) <;> conv => whnf)
    | (refine brNTr (fun h => ?_) (fun h => ?_) <;> conv => whnf)
    | (refine brNLt (fun h => ?_) (fun h => ?_) <;> conv => whnf)
    | (refine brNLe (fun h => ?_) (fun h => ?_) <;> conv => whnf)
    | (refine brNEq (fun h => ?_) (fun h => ?_) <;> conv => whnf)
    | (refine brStr (fun h => ?_) (fun h => ?_) <;> conv => whnf)
    | (refine brNStr (fun h => ?_) (fun h => ?_) <;> conv => whnf)
    | (refine brStrLt (fun h => ?_) (fun h => ?_) <;> conv => whnf)
    | (refine brNStrLt (fun h => ?_) (fun h => ?_) <;> conv => whnf)
    | (refine brNBEq (fun h => ?_) (fun h => ?_) <;> conv => whnf)
    | (refine brBEq (fun h => ?_) (fun h => ?_) <;> conv => whnf)
    | (refine CallK_sz (c_laws_szDemandS _ _ (by omega) (by omega) (by assumption)) (fun hc => ?_) (fun hc => ?_) <;> conv => whnf)
    | (refine CallK_intro (c_laws_toDemandS _ (by omega) (And.right (by assumption))) ?_; conv => whnf)
    | (refine CallK_tr (c_laws_eqDemandS _ _ (by assumption) (by assumption)) (fun h => ?_) (fun h => ?_) <;> conv => whnf)
    | (refine LCallK_intro (c_laws_markDemandS _ (by omega) _ (by omega) (by omega)) ?_; conv => whnf)
    | (refine CallK_intro (c_laws_heldDemandS _ (by omega) _ (by omega) (by omega)) ?_; conv => whnf)
    | (refine CallK_intro (c_spec_ConsumeForecast _ (by assumption) _ (by assumption) _ _) ?_; conv => whnf)
    | (refine CallK_intro (c_impl_ConsumeForecast _ (by assumption) _ (by assumption) _ _) ?_; conv => whnf)
    | (refine takeK_full (by simp [mkDemandL_len]) ?_; conv => whnf)
    | (refine WrK_i64 (by omega) (by omega) ?_; conv => whnf)
    | (refine takeK_full (by first | exact rfl | exact (List.length_map _).symm | exact List.length_map _ | omega) ?_; conv => whnf)
    | (refine StrK_intro _ rfl (by assumption) ?_; conv => whnf)
    | (refine IxK_map _ rfl (by assumption) ?_; conv => whnf)
    | (refine StrK_lt _ rfl (by omega) (fun b hb => ?_); conv => whnf)
    | (refine IxK_mapLt _ rfl (by (try simp only [List.length_map] at *); omega) (fun x hx => ?_); conv => whnf)
    | (refine IxK_mapI (by omega) (by (try simp only [List.length_map] at *); omega) (fun j x hj hx => ?_); conv => whnf)
    | (refine NeedK_intro (by omega) ?_; conv => whnf)
    | (refine NeedK_intro (by first | rfl | (simp; done) | omega) ?_; conv => whnf)
  all_goals first | exact rfl | contradiction | (exfalso; simp_all; done) | (exfalso; omega)
end Go.DL
namespace Go.Proofs.Ythifncefbpmdiaa
open Go.ChangeShapes Go.WideShapes Go.ChangeAt Go.RowKit
theorem Try.cpD : Try.checked.prog = Try.prog := by kernel_rfl
theorem Try.ownD : ownKnob Try.checked.prog.godebug = none := by kernel_rfl
theorem Try.laidOutD : laidOutB Try.checked.prog = true := by kernel_rfl
theorem Try.lawD : ∀ xs, DL.HasTys [.sl DL.DemandV.ty, .sl DL.DemandV.ty, .int, .int] xs → DL.Contract Try.checked.prog 6 (xs.map .d) (.one (.d (.sc (.bool true)))) := by rw [Try.cpD]; exact DL.law_FnExactConsumeForecast
theorem fnExactConsumeForecast_lifted (os : Os) (started : os.Started) (H : Type) (enc : TypeId × Value → H) :
    ReturnsInHanded {} Try.checked os 6 .any (Rows.fnExactConsumeForecastSpec.pre6 enc Try.checked.prog Try.f6 Rows.fnExactConsumeForecastRow.domain false) (Rows.fnExactConsumeForecastSpec.post enc Try.checked.prog Try.f6 false true false false) := by
  refine returnsInHanded_of_change (C := Try.checked) Try.ownD started (by kernel_rfl) Try.func6
    (ChangeSpec.witness6 (enc := enc) (C := Try.checked) false ⟨#[], #[.slice none 0 0, .slice none 0 0, .int .i64 0, .int .i64 0], []⟩ 8 (by kernel_rfl) (by kernel_rfl) (by kernel_rfl) (by kernel_rfl)) ?_
  intro W base args ds gs before hval0 hW0 _ _
  exact DL.law_calls (P := Try.checked.prog) (fn := Try.f6) (s := Rows.fnExactConsumeForecastSpec) (ts := [31, 31, 3, 3]) (tb := 4) (tys := [.sl DL.DemandV.ty, .sl DL.DemandV.ty, .int, .int]) (by kernel_rfl) (by kernel_rfl) (by kernel_rfl) rfl
    (fun ds h => match ds, h with | [d0, d1, d2, d3], _ => rfl) Try.laidOutD (by kernel_rfl) Try.lawD W base args ds gs before @hval0 hW0
/-- The law returns true, whatever comes in. -/
theorem FnExactConsumeForecast_holds : Rows.FnExactConsumeForecastSaid :=
  OpenClaim.holds_of_wide 6 Try.f6 rfl rfl rfl rfl rfl rfl rfl ⟨rfl, rfl, rfl, rfl, rfl⟩ rfl rfl rfl rfl rfl (by kernel_rfl) Try.func6 (by kernel_rfl)
    (of_decide_eq_true (by kernel_rfl)) (by unfold Func.isWrapper; first | (rw [if_pos (by decide +kernel)]; kernel_rfl) | (rw [if_neg (by decide +kernel)]; exact ⟨rfl, rfl⟩))
    (fun os started H enc _ => fnExactConsumeForecast_lifted os started H enc)
end Go.Proofs.Ythifncefbpmdiaa
namespace Go.DL

end Go.DL
