/- The statement FnExactLevelsOfSaid: the law returns true for every input that can be read as data, and each argument reads afterwards as it read before. No conditions. -/
import Derived.Test.YthifncefbpmdiaaTC
import Derived.ProofKit
namespace Go.DL
set_option maxRecDepth 100000
set_option maxHeartbeats 2000000
set_option linter.unusedSimpArgs false
set_option linter.unusedVariables false
open Go.RowKit Go.Proofs Go.Proofs.Ythifncefbpmdiaa

theorem levelsN_ok (cat : List ItemV) (hc : okL ItemV.ok cat) (lines : List LineV) (hl : okL LineV.ok lines) : okL okI (levelsN cat lines) ∧ (levelsN cat lines).length ≤ cat.length := by
  by_cases hb : isBillsP cat lines
  · have e : levelsN cat lines = (List.range cat.length).map (levOf cat lines) := by simp [levelsN, hb]
    rw [e]
    have hn := hb.1.2
    refine ⟨⟨by simp; omega, fun v hv => ?_⟩, by simp⟩
    obtain ⟨j, _, rfl⟩ := List.mem_map.1 hv
    have h1 : 0 ≤ levOf cat lines j := (tight_lev _ _).1 j
    have h2 : levOf cat lines j ≤ cat.length := lev_small (edges_lt (linesIn_of hb.2.2.1)) hb.2.2.2 j
    constructor <;> omega
  · simp [levelsN, hb, okL]
set_option maxHeartbeats 8000000 in
theorem law0_FnExactLevelsOf (cat : List ItemV) (hc : okL ItemV.ok cat) (lines : List LineV) (hl : okL LineV.ok lines) : Contract Try.prog 7 [.d (lD ItemV.dat cat), .d (lD LineV.dat lines)] (.one (.d (.sc (.bool true)))) := by
  have lw0 := wtL_len (wt := ItemV.wt) (l := cat)
  have lw1 := wtL_len (wt := LineV.wt) (l := lines)
  obtain ⟨hr, hrl⟩ := levelsN_ok cat hc lines hl
  have hmk := fun k => mkLk_bnd lines k
  refine contract_byR [100000 + 39, 100000 + 41, 600000 + 40, 100000 + 40, 600000 + 34, 600000 + 32, 600000 + 35, 600000 + 38] hma hTa Try.func7 (by kernel_rfl) (by kernel_rfl) ?_
  conv => whnf
  repeat' first
    | (refine brLt (fun h => ?_) (fun h => ?_) <;> conv => whnf)
    | (refine brLe (fun h => ?_) (fun h => ?_) <;> conv => whnf)
    | (refine brEq (fun h => ?_) (fun h => ?_) <;> conv => whnf)
    | (refine brTr (fun h => ?_) (fun h => ?_) <;> conv => whnf)
    | (refine brNTr (fun h => ?_) (fun h => ?_) <;> conv => whnf)
    | (refine brNLt (fun h => ?_) (fun h => ?_) <;> conv => whnf)
    | (refine brNLe (fun h => ?_) (fun h => ?_) <;> conv => whnf)
    | (refine brNEq (fun h => ?_) (fun h => ?_) <;> conv => whnf)
    | (refine brStr (fun h => ?_) (fun h => ?_) <;> conv => whnf)
    | (refine brNStr (fun h => ?_) (fun h => ?_) <;> conv => whnf)
    | (refine brStrLt (fun h => ?_) (fun h => ?_) <;> conv => whnf)
    | (refine brNStrLt (fun h => ?_) (fun h => ?_) <;> conv => whnf)
    | (refine brNBEq (fun h => ?_) (fun h => ?_) <;> conv => whnf)
    | (refine brBEq (fun h => ?_) (fun h => ?_) <;> conv => whnf)
    | (refine CallK_sz (c_laws_szItemS _ _ (by omega) (by omega) (by assumption)) (fun hc => ?_) (fun hc => ?_) <;> conv => whnf)
    | (refine CallK_sz (c_laws_szBillLineS _ _ (by omega) (by omega) (by assumption)) (fun hc => ?_) (fun hc => ?_) <;> conv => whnf)
    | (refine CallK_intro (c_laws_toItemS _ (by omega) (And.right (by assumption))) ?_; conv => whnf)
    | (refine CallK_intro (c_laws_toBillLineST _ (by omega) (And.right (by assumption))) ?_; conv => whnf)
    | (refine CallK_tr (c_laws_eqItemS _ _ (by assumption) (by assumption)) (fun h => ?_) (fun h => ?_) <;> conv => whnf)
    | (refine CallK_tr (c_laws_eqBillLineS _ _ (by assumption) (by assumption)) (fun h => ?_) (fun h => ?_) <;> conv => whnf)
    | (refine CallK_tr (c_laws_eqIntS _ _ (by assumption) (by assumption)) (fun h => ?_) (fun h => ?_) <;> conv => whnf)
    | (refine LCallK_intro (c_laws_markItemS _ (by omega) _ (by omega) (by omega)) ?_; conv => whnf)
    | (refine LCallK_intro (c_laws_markIntS _ (by omega) _ (by omega) (by omega)) ?_; conv => whnf)
    | (refine CallK_intro (c_laws_heldIntS _ (by omega) _ (by omega) (by omega)) ?_; conv => whnf)
    | (refine CallK_intro (c_spec_LevelsOf_f _ (by assumption) _ (by assumption)) ?_; conv => whnf)
    | (refine CallK_intro (c_impl_LevelsOf_f _ (by assumption) _ (by assumption)) ?_; conv => whnf)
    | (refine takeK_full (by simp [mkIntL_len]) ?_; conv => whnf)
    | (refine TCallK_intro (c_laws_markBillLineS lines (by omega) _ (by omega) (by omega)) ?_; conv => whnf)
    | (refine ErK_intro (lines.map LineV.dat) (pureL_map trd_pure _).clean (eraseL_mapTo trd_erase _) ?_; conv => whnf)
    | (refine NeedK_intro (pureL_map trd_pure _).clean ?_; conv => whnf)
    | (refine NeedK_intro (pureL_map trd_pure _).noRef ?_; conv => whnf)
    | (refine NeedK_intro (by rfl) ?_; conv => whnf)
    | (refine WrK_i64 (by omega) (by omega) ?_; conv => whnf)
    | (refine takeK_full (by first | exact rfl | exact (List.length_map _).symm | exact List.length_map _ | omega) ?_; conv => whnf)
    | (refine StrK_intro _ rfl (by assumption) ?_; conv => whnf)
    | (refine IxK_map _ rfl (by assumption) ?_; conv => whnf)
    | (refine StrK_lt _ rfl (by omega) (fun b hb => ?_); conv => whnf)
    | (refine IxK_mapLt _ rfl (by (try simp only [List.length_map] at *); omega) (fun x hx => ?_); conv => whnf)
    | (refine IxK_mapI (by omega) (by (try simp only [List.length_map] at *); omega) (fun j x hj hx => ?_); conv => whnf)
    | (refine NeedK_intro (by omega) ?_; conv => whnf)
    | (refine NeedK_intro (by first | rfl | (simp; done) | omega) ?_; conv => whnf)
  all_goals first | exact rfl | contradiction | (exfalso; omega) | (exfalso; have := hmk (1 + 8 * (cat.length : Int)); omega) | (exfalso; simp_all; done)


theorem law_FnExactLevelsOf : ∀ xs, HasTys [.sl ItemV.ty, .sl LineV.ty] xs → Contract Try.prog 7 (xs.map .d) (.one (.d (.sc (.bool true)))) := by
  intro xs h
  obtain ⟨d0, r0, rfl, h0, g0⟩ := HasTys_cons h
  obtain ⟨a0, rfl, k0⟩ := sl_dec (fun _ => ItemV.dec) h0
  have k0 : okL ItemV.ok a0 := k0
  obtain ⟨d1, r1, rfl, h1, g1⟩ := HasTys_cons g0
  obtain ⟨a1, rfl, k1⟩ := sl_dec (fun _ => LineV.dec) h1
  have k1 : okL LineV.ok a1 := k1
  cases HasTys_nil g1
  clear h0 h1
  exact law0_FnExactLevelsOf a0 (by assumption) a1 (by assumption)
end Go.DL
namespace Go.Proofs.Ythifncefbpmdiaa
open Go.ChangeShapes Go.WideShapes Go.ChangeAt Go.RowKit
theorem Try.cpD : Try.checked.prog = Try.prog := by kernel_rfl
theorem Try.ownD : ownKnob Try.checked.prog.godebug = none := by kernel_rfl
theorem Try.laidOutD : laidOutB Try.checked.prog = true := by kernel_rfl
theorem Try.lawD : ∀ xs, DL.HasTys [.sl DL.ItemV.ty, .sl DL.LineV.ty] xs → DL.Contract Try.checked.prog 7 (xs.map .d) (.one (.d (.sc (.bool true)))) := by rw [Try.cpD]; exact DL.law_FnExactLevelsOf
theorem fnExactLevelsOf_lifted (os : Os) (started : os.Started) (H : Type) (enc : TypeId × Value → H) :
    ReturnsInHanded {} Try.checked os 7 .any (Rows.fnExactLevelsOfSpec.pre6 enc Try.checked.prog Try.f7 Rows.fnExactLevelsOfRow.domain false) (Rows.fnExactLevelsOfSpec.post enc Try.checked.prog Try.f7 false true false false) := by
  refine returnsInHanded_of_change (C := Try.checked) Try.ownD started (by kernel_rfl) Try.func7
    (ChangeSpec.witness6 (enc := enc) (C := Try.checked) false ⟨#[], #[.slice none 0 0, .slice none 0 0], []⟩ 8 (by kernel_rfl) (by kernel_rfl) (by kernel_rfl) (by kernel_rfl)) ?_
  intro W base args ds gs before hval0 hW0 _ _
  exact DL.law_calls (P := Try.checked.prog) (fn := Try.f7) (s := Rows.fnExactLevelsOfSpec) (ts := [43, 44]) (tb := 4) (tys := [.sl DL.ItemV.ty, .sl DL.LineV.ty]) (by kernel_rfl) (by kernel_rfl) (by kernel_rfl) rfl
    (fun ds h => match ds, h with | [d0, d1], _ => rfl) Try.laidOutD (by kernel_rfl) Try.lawD W base args ds gs before @hval0 hW0
/-- The law returns true, whatever comes in. -/
theorem FnExactLevelsOf_holds : Rows.FnExactLevelsOfSaid :=
  OpenClaim.holds_of_wide 7 Try.f7 rfl rfl rfl rfl rfl rfl rfl ⟨rfl, rfl, rfl, rfl, rfl⟩ rfl rfl rfl rfl rfl (by kernel_rfl) Try.func7 (by kernel_rfl)
    (of_decide_eq_true (by kernel_rfl)) (by unfold Func.isWrapper; first | (rw [if_pos (by decide +kernel)]; kernel_rfl) | (rw [if_neg (by decide +kernel)]; exact ⟨rfl, rfl⟩))
    (fun os started H enc _ => fnExactLevelsOf_lifted os started H enc)
end Go.Proofs.Ythifncefbpmdiaa
namespace Go.DL

end Go.DL
