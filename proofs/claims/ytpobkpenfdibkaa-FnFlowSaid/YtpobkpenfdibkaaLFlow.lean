/- The statement FnExactFlowSaid: the law returns true for every input that can be read as data, and each argument reads afterwards as it read before. No conditions. -/
import Derived.Test.YtpobkpenfdibkaaQ2
import Derived.ProofKit
namespace Go.DL
set_option maxRecDepth 100000
set_option maxHeartbeats 2000000
set_option linter.unusedSimpArgs false
set_option linter.unusedVariables false
open Go.RowKit Go.Proofs Go.Proofs.Ytpobkpenfdibkaa

set_option maxHeartbeats 4000000 in
theorem law0_FnFlow (b : List Int) (hb1 : b.length ≤ 9223372036854775807) (hb2 : ∀ n ∈ b, 0 ≤ n ∧ n ≤ 255) : Contract Try.prog 4 [.d (lD yD b)] (.one (.d (.sc (.bool true)))) := by
  refine contract_byR [200000 + 20] hma hTa Try.func4 (by kernel_rfl) (by kernel_rfl) ?_
  conv => whnf
  refine CallK_tr (c_laws_big b hb1) (fun h => ?_) (fun h => ?_) <;> conv => whnf
  refine DCallK_intro (c_spec_DrawFlowTime b (by omega) hb2) ?_
  rintro res _ ⟨r, q, hr, hl, hq, hq2, rfl⟩
  conv => whnf
  have e1 : (List.map StepV.dat r.steps).length = r.steps.length := List.length_map _
  refine CallK_intro (c_impl_FlowTime r hr q) ?_
  conv => whnf
  refine CallK_intro (c_spec_FlowTime r hr q) ?_
  conv => whnf
  refine brNBEq (fun _ => ?_) (fun h => absurd rfl h)
  conv => whnf
  refine brNTr (fun hv => ?_) (fun hv => ?_) <;> conv => whnf
  · have hrb := runOf_bound hv.1
    have hlen := hv.1.2.2
    have hfc := flow_closed hv.1 hv.2
    have hq1 : 1 ≤ q ∧ q ≤ 200 := hv.2
    generalize flowTimeN r q = t at hfc ⊢
    refine LoopK_introR [200000 + 20] hma hTa [(3, .key 3), (4, .pl), (5, .pl), (9, .pl), (10, .pl), (11, .pl)] (fun i : Nat => ⟨[(3, .ae 3 0), (4, .d (iD q)), (5, .d (iD t)), (9, .d (iD (sumR (runOf r) i))), (10, .d (iD (maxR (runOf r) i))), (11, .d (iD i))], [(3, some ⟨26, 2, [r.dat]⟩)], []⟩) (fun i => i ≤ r.steps.length) (fun i => r.steps.length - i) (by kernel_rfl) ?_ ?_
    · conv => whnf
      exact ⟨0, by omega, rfl⟩
    · intro i hi
      have hs := sumR_bound hrb i
      have hm := maxR_bound hrb i
      have hri := hrb i
      conv => whnf
      refine brLt (fun h1 => ?_) (fun h1 => ?_) <;> conv => whnf
      · refine IxK_mapLt _ rfl (by omega) (fun x hx => ?_)
        conv => whnf
        have hil := get_lt hx
        have hxr := runOf_at hx
        refine WrK_i64 (by omega) (by omega) ?_
        conv => whnf
        refine IxK_map i rfl hx ?_
        conv => whnf
        refine WrK_i64 (by omega) (by omega) ?_
        conv => whnf
        refine ⟨i + 1, hil, Nat.sub_lt_sub_left hil (Nat.lt_succ_self i), ?_⟩
        dsimp only
        rw [show sumR (runOf r) (i + 1) = sumR (runOf r) i + runOf r i from rfl, show maxR (runOf r) (i + 1) = Max.max (maxR (runOf r) i) (runOf r i) from rfl, hxr]
        rfl
      · have ei : i = r.steps.length := by omega
        subst ei
        have hmul : 0 ≤ (q - 1) * maxR (runOf r) r.steps.length ∧ (q - 1) * maxR (runOf r) r.steps.length ≤ 199 * 1000 :=
          ⟨Int.mul_nonneg (by omega) hm.1, Int.mul_le_mul (by omega) hm.2 hm.1 (by omega)⟩
        refine WrK_i64 (by omega) (by omega) ?_
        conv => whnf
        refine WrK_i64 (by omega) (by omega) ?_
        conv => whnf
        refine WrK_i64 (by omega) (by omega) ?_
        conv => whnf
        exact congrArg (fun b => D.sc (.bool b)) (eqB_iff.2 hfc)
  · have e2 : flowTimeN r q = 0 := by unfold flowTimeN; rw [ifP_f hv]
    rw [e2]
    exact congrArg (fun b => D.sc (.bool b)) (eqB_iff.2 rfl)


theorem bytes_dec {x : D} (h : HasTy (.sl .u8) x) : ∃ b : List Int, x = lD yD b ∧ b.length ≤ 9223372036854775807 ∧ ∀ n ∈ b, 0 ≤ n ∧ n ≤ 255 := by
  obtain ⟨b, e, h1, h2⟩ := sl_dec (f := yD) (ok := fun n => 0 ≤ n ∧ n ≤ 255) (e := .u8) (fun y hy => by cases hy with | u8 n lo hi => exact ⟨n, rfl, lo, hi⟩) h
  exact ⟨b, e, h1, h2⟩
theorem law_FnFlow : ∀ xs, HasTys [.sl .u8] xs → Contract Try.prog 4 (xs.map .d) (.one (.d (.sc (.bool true)))) := by
  intro xs h
  obtain ⟨d0, r0, rfl, h0, g0⟩ := HasTys_cons h
  cases HasTys_nil g0
  obtain ⟨b, rfl, hb1, hb2⟩ := bytes_dec h0
  exact law0_FnFlow b hb1 hb2
end Go.DL
namespace Go.Proofs.Ytpobkpenfdibkaa
open Go.ChangeShapes Go.WideShapes Go.ChangeAt Go.RowKit
theorem Try.cpD : Try.checked.prog = Try.prog := by kernel_rfl
theorem Try.ownD : ownKnob Try.checked.prog.godebug = none := by kernel_rfl
theorem Try.laidOutD : laidOutB Try.checked.prog = true := by kernel_rfl
theorem Try.lawD : ∀ xs, DL.HasTys [.sl .u8] xs → DL.Contract Try.checked.prog 4 (xs.map .d) (.one (.d (.sc (.bool true)))) := by rw [Try.cpD]; exact DL.law_FnFlow
theorem fnFlow_lifted (os : Os) (started : os.Started) (H : Type) (enc : TypeId × Value → H) :
    ReturnsInHanded {} Try.checked os 4 .any (Rows.fnFlowSpec.pre6 enc Try.checked.prog Try.f4 Rows.fnFlowRow.domain false) (Rows.fnFlowSpec.post enc Try.checked.prog Try.f4 false true false false) := by
  refine returnsInHanded_of_change (C := Try.checked) Try.ownD started (by kernel_rfl) Try.func4
    (ChangeSpec.witness6 (enc := enc) (C := Try.checked) false ⟨#[], #[.slice none 0 0], []⟩ 8 (by kernel_rfl) (by kernel_rfl) (by kernel_rfl) (by kernel_rfl)) ?_
  intro W base args ds gs before hval0 hW0 _ _
  exact DL.law_calls (P := Try.checked.prog) (fn := Try.f4) (s := Rows.fnFlowSpec) (ts := [22]) (tb := 4) (tys := [.sl .u8]) (by kernel_rfl) (by kernel_rfl) (by kernel_rfl) rfl
    (fun ds h => match ds, h with | [d0], _ => rfl) Try.laidOutD (by kernel_rfl) Try.lawD W base args ds gs before @hval0 hW0
/-- The law returns true, whatever comes in. -/
theorem FnFlow_holds : Rows.FnFlowSaid :=
  OpenClaim.holds_of_wide 4 Try.f4 rfl rfl rfl rfl rfl rfl rfl ⟨rfl, rfl, rfl, rfl, rfl⟩ rfl rfl rfl rfl rfl (by kernel_rfl) Try.func4 (by kernel_rfl)
    (of_decide_eq_true (by kernel_rfl)) (by unfold Func.isWrapper; first | (rw [if_pos (by decide +kernel)]; kernel_rfl) | (rw [if_neg (by decide +kernel)]; exact ⟨rfl, rfl⟩))
    (fun os started H enc _ => fnFlow_lifted os started H enc)
end Go.Proofs.Ytpobkpenfdibkaa
namespace Go.DL

end Go.DL
