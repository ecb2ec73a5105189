/- The statement FnExactQuantityInSaid: the law returns true for every input that can be read as data, and each argument reads afterwards as it read before. No conditions. -/
import Derived.Test.YtjhjedfnjimflaaM
import Derived.Test.YtjhjedfnjimflaaZ2
import Derived.ProofKit
namespace Go.DL
set_option maxRecDepth 100000
set_option maxHeartbeats 2000000
set_option linter.unusedSimpArgs false
set_option linter.unusedVariables false
open Go.RowKit Go.Proofs Go.Proofs.Ytjhjedfnjimflaa

set_option maxHeartbeats 4000000 in
theorem law_FnExactQuantityIn : ∀ xs, HasTys [.sl ItemV.ty, .sl LineV.ty, .str, .str, .int, .sl PickV.ty] xs → Contract Try.prog 13 (xs.map .d) (.one (.d (.sc (.bool true)))) := by
  intro xs h
  obtain ⟨d0, r0, rfl, h0, g0⟩ := HasTys_cons h
  obtain ⟨a0, rfl, k0⟩ := sl_dec (fun _ => ItemV.dec) h0
  have k0 : okL ItemV.ok a0 := k0
  obtain ⟨d1, r1, rfl, h1, g1⟩ := HasTys_cons g0
  obtain ⟨a1, rfl, k1⟩ := sl_dec (fun _ => LineV.dec) h1
  have k1 : okL LineV.ok a1 := k1
  obtain ⟨d2, r2, rfl, h2, g2⟩ := HasTys_cons g1
  obtain ⟨a2, rfl, k2⟩ := str_dec h2
  obtain ⟨d3, r3, rfl, h3, g3⟩ := HasTys_cons g2
  obtain ⟨a3, rfl, k3⟩ := str_dec h3
  obtain ⟨d4, r4, rfl, h4, g4⟩ := HasTys_cons g3
  obtain ⟨a4, rfl, k4⟩ := int_dec h4
  obtain ⟨d5, r5, rfl, h5, g5⟩ := HasTys_cons g4
  obtain ⟨a5, rfl, k5⟩ := sl_dec (fun _ => PickV.dec) h5
  have k5 : okL PickV.ok a5 := k5
  cases HasTys_nil g5
  clear h0 h1 h2 h3 h4 h5
  refine contract_by hma hTa Try.func13 (by kernel_rfl) (by kernel_rfl) ?_
  conv => whnf
  repeat' first
    | (refine brLt (fun h => ?_) (fun h => ?_) <;> conv => whnf)
    | (refine brLe (fun h => ?_) (fun h => ?_) <;> conv => whnf)
    | (refine brEq (fun h => ?_) (fun h => ?_) <;> conv => whnf)
    | (refine brTr (fun h => ?_) (fun h => ?_) <;> conv => whnf)
    | (refine brNTr (fun h => ?_) (fun h => ?_) <;> conv => whnf)
    | (refine brNLt (fun h => ?_) (fun h => ?_) <;> conv => whnf)
    | (refine brNLe (fun h => ?_) (fun h => ?_) <;> conv => whnf)
    | (refine brNEq (fun h => ?_) (fun h => ?_) <;> conv => whnf)
    | (refine brStr (fun h => ?_) (fun h => ?_) <;> conv => whnf)
    | (refine brNStr (fun h => ?_) (fun h => ?_) <;> conv => whnf)
    | (refine brStrLt (fun h => ?_) (fun h => ?_) <;> conv => whnf)
    | (refine brNStrLt (fun h => ?_) (fun h => ?_) <;> conv => whnf)
    | (refine brNBEq (fun h => ?_) (fun h => ?_) <;> conv => whnf)
    | (refine brBEq (fun h => ?_) (fun h => ?_) <;> conv => whnf)
    | (refine CallK_sz (c_laws_szItemS _ _ (by omega) (by omega) (by assumption)) (fun hc => ?_) (fun hc => ?_) <;> conv => whnf)
    | (refine CallK_intro (c_laws_toItemS _ (by omega) (And.right (by assumption))) ?_; conv => whnf)
    | (refine CallK_intro (c_laws_eqItemS _ _ (by assumption) (by assumption)) ?_; conv => whnf)
    | (refine CallK_sz (c_laws_szBillLineS _ _ (by omega) (by omega) (by assumption)) (fun hc => ?_) (fun hc => ?_) <;> conv => whnf)
    | (refine CallK_intro (c_laws_toBillLineS _ (by omega) (And.right (by assumption))) ?_; conv => whnf)
    | (refine CallK_intro (c_laws_eqBillLineS _ _ (by assumption) (by assumption)) ?_; conv => whnf)
    | (refine CallK_sz (c_laws_szPickS _ _ (by omega) (by omega) (by assumption)) (fun hc => ?_) (fun hc => ?_) <;> conv => whnf)
    | (refine CallK_intro (c_laws_toPickS _ (by omega) (And.right (by assumption))) ?_; conv => whnf)
    | (refine CallK_intro (c_laws_eqPickS _ _ (by assumption) (by assumption)) ?_; conv => whnf)
    | (refine CallK_intro (c_spec_QuantityIn _ (by assumption) _ (by assumption) _ _ _ _ (by assumption)) ?_; conv => whnf)
    | (refine CallK_intro (c_impl_QuantityIn _ (by assumption) _ (by assumption) _ _ _ _ (by assumption)) ?_; conv => whnf)
    | (refine WrK_i64 (by omega) (by omega) ?_; conv => whnf)
    | (refine takeK_full (by first | exact rfl | exact (List.length_map _).symm | exact List.length_map _ | omega) ?_; conv => whnf)
    | (refine StrK_intro _ rfl (by assumption) ?_; conv => whnf)
    | (refine IxK_map _ rfl (by assumption) ?_; conv => whnf)
    | (refine StrK_lt _ rfl (by omega) (fun b hb => ?_); conv => whnf)
    | (refine IxK_mapLt _ rfl (by (try simp only [List.length_map] at *); omega) (fun x hx => ?_); conv => whnf)
    | (refine IxK_mapI (by omega) (by (try simp only [List.length_map] at *); omega) (fun j x hj hx => ?_); conv => whnf)
    | (refine NeedK_intro (by omega) ?_; conv => whnf)
  all_goals first | exact rfl | contradiction | (exfalso; simp_all; done)
end Go.DL
namespace Go.Proofs.Ytjhjedfnjimflaa
open Go.ChangeShapes Go.WideShapes Go.ChangeAt Go.RowKit
theorem Try.cpD : Try.checked.prog = Try.prog := by kernel_rfl
theorem Try.ownD : ownKnob Try.checked.prog.godebug = none := by kernel_rfl
theorem Try.laidOutD : laidOutB Try.checked.prog = true := by kernel_rfl
theorem Try.lawD : ∀ xs, DL.HasTys [.sl DL.ItemV.ty, .sl DL.LineV.ty, .str, .str, .int, .sl DL.PickV.ty] xs → DL.Contract Try.checked.prog 13 (xs.map .d) (.one (.d (.sc (.bool true)))) := by rw [Try.cpD]; exact DL.law_FnExactQuantityIn
theorem fnExactQuantityIn_lifted (os : Os) (started : os.Started) (H : Type) (enc : TypeId × Value → H) :
    ReturnsInHanded {} Try.checked os 13 .any (Rows.fnExactQuantityInSpec.pre6 enc Try.checked.prog Try.f13 Rows.fnExactQuantityInRow.domain false) (Rows.fnExactQuantityInSpec.post enc Try.checked.prog Try.f13 false true false false) := by
  refine returnsInHanded_of_change (C := Try.checked) Try.ownD started (by kernel_rfl) Try.func13
    (ChangeSpec.witness6 (enc := enc) (C := Try.checked) false ⟨#[], #[.slice none 0 0, .slice none 0 0, .string ⟨#[]⟩, .string ⟨#[]⟩, .int .i64 0, .slice none 0 0], []⟩ 8 (by kernel_rfl) (by kernel_rfl) (by kernel_rfl) (by kernel_rfl)) ?_
  intro W base args ds gs before hval0 hW0 _ _
  exact DL.law_calls (P := Try.checked.prog) (fn := Try.f13) (s := Rows.fnExactQuantityInSpec) (ts := [97, 98, 9, 9, 3, 48]) (tb := 4) (tys := [.sl DL.ItemV.ty, .sl DL.LineV.ty, .str, .str, .int, .sl DL.PickV.ty]) (by kernel_rfl) (by kernel_rfl) (by kernel_rfl) rfl
    (fun ds h => match ds, h with | [d0, d1, d2, d3, d4, d5], _ => rfl) Try.laidOutD (by kernel_rfl) Try.lawD W base args ds gs before @hval0 hW0
/-- The law returns true, whatever comes in. -/
theorem FnExactQuantityIn_holds : Rows.FnExactQuantityInSaid :=
  OpenClaim.holds_of_wide 13 Try.f13 rfl rfl rfl rfl rfl rfl rfl ⟨rfl, rfl, rfl, rfl, rfl⟩ rfl rfl rfl rfl rfl (by kernel_rfl) Try.func13 (by kernel_rfl)
    (of_decide_eq_true (by kernel_rfl)) (by unfold Func.isWrapper; first | (rw [if_pos (by decide +kernel)]; kernel_rfl) | (rw [if_neg (by decide +kernel)]; exact ⟨rfl, rfl⟩))
    (fun os started H enc _ => fnExactQuantityIn_lifted os started H enc)
end Go.Proofs.Ytjhjedfnjimflaa
namespace Go.DL

end Go.DL
