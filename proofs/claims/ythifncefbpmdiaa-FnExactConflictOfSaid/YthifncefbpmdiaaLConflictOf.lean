/- The statement FnExactConflictOfSaid: the law returns true for every input that can be read as data, and each argument reads afterwards as it read before. No conditions. -/
import Derived.Test.YthifncefbpmdiaaM
import Derived.Test.YthifncefbpmdiaaXD
import Derived.ProofKit
namespace Go.DL
set_option maxRecDepth 100000
set_option maxHeartbeats 2000000
set_option linter.unusedSimpArgs false
set_option linter.unusedVariables false
open Go.RowKit Go.Proofs Go.Proofs.Ythifncefbpmdiaa

set_option maxHeartbeats 16000000 in
theorem law0_FnExactConflictOf (a0 : ModelV) (k0 : ModelV.ok a0) (a1 : List PickV) (k1 : okL PickV.ok a1) : Contract Try.prog 14 [.d a0.dat, .d (lD PickV.dat a1)] (.one (.d (.sc (.bool true)))) := by
  have lw1 := wtL_len (wt := PickV.wt) (l := a1)
  obtain ⟨hr, hrl⟩ := confV_ok a0 k0 a1 k1
  have hmk := mkModelK_bnd a0 1
  refine contract_byR [100000 + 66, 100000 + 49, 400000 + 89, 600000 + 71, 600000 + 65, 600000 + 66, 600000 + 63, 10000000 + 29, 10000000 + 32, 10000000 + 56, 10000000 + 96, 1100000 + 8] hma hTa Try.func14 (by kernel_rfl) (by kernel_rfl) ?_
  conv => whnf
  refine CallK_sz (c_laws_szModel _ _ (by omega) (by omega) (by assumption)) (fun hc => ?_) (fun hc => ?_) <;> conv => whnf
  · refine brLt (fun h => ?_) (fun h => by exfalso; omega)
    conv => whnf
  refine brLt (fun h => by exfalso; omega) (fun _ => ?_)
  conv => whnf
  refine CallK_sz (c_laws_szPickS _ _ (by omega) (by omega) (by assumption)) (fun hc => ?_) (fun hc => ?_) <;> conv => whnf
  · refine brLt (fun h => ?_) (fun h => by exfalso; omega)
    conv => whnf
  refine brLt (fun h => by exfalso; omega) (fun _ => ?_)
  conv => whnf
  refine CallK_intro (c_laws_toModel a0 k0 (by omega)) ?_
  conv => whnf
  refine CallK_intro (c_laws_toPickS a1 (by omega) k1.2) ?_
  conv => whnf
  repeat first
    | (refine takeK_full (by first | exact rfl | simp [mkPickL_len]) ?_; conv => whnf)
    | (refine NeedK_intro (by first | rfl | exact modelClean _ | exact (pureL_map opt_pure _).noRef | exact (pureL_map rule_pure _).noRef | exact (pureL_map opt_pure _).clean | exact (pureL_map rule_pure _).clean | (simp; done)) ?_; conv => whnf)
    | (refine ErK_intro _ (pureL_map opt_pure _).clean (eraseL_mapTo (g := OptV.dat) opt_erase _) ?_; conv => whnf)
    | (refine ResK_same (pureL_map opt_pure _).noRef ?_; conv => whnf)
    | (refine NoRefK_intro (pureL_map opt_pure _).noRef ?_; conv => whnf)
    | (refine ErK_intro _ (pureL_map rule_pure _).clean (eraseL_mapTo (g := (lD NodeV.dat)) rule_erase _) ?_; conv => whnf)
    | (refine ResK_same (pureL_map rule_pure _).noRef ?_; conv => whnf)
    | (refine NoRefK_intro (pureL_map rule_pure _).noRef ?_; conv => whnf)
  refine CallK_intro (c_spec_ConflictOfV a0 k0 a1 k1) ?_
  conv => whnf
  refine WkK_intro [(1, .pl), (2, .key 2), (6, .fz), (7, .pl)] ?_
  conv => whnf
  repeat first
    | (refine takeK_full (by first | exact rfl | simp [mkPickL_len]) ?_; conv => whnf)
    | (refine NeedK_intro (by first | rfl | exact modelClean _ | exact (pureL_map opt_pure _).noRef | exact (pureL_map rule_pure _).noRef | exact (pureL_map opt_pure _).clean | exact (pureL_map rule_pure _).clean | (simp; done)) ?_; conv => whnf)
    | (refine ErK_intro _ (pureL_map opt_pure _).clean (eraseL_mapTo (g := OptV.dat) opt_erase _) ?_; conv => whnf)
    | (refine ResK_same (pureL_map opt_pure _).noRef ?_; conv => whnf)
    | (refine NoRefK_intro (pureL_map opt_pure _).noRef ?_; conv => whnf)
    | (refine ErK_intro _ (pureL_map rule_pure _).clean (eraseL_mapTo (g := (lD NodeV.dat)) rule_erase _) ?_; conv => whnf)
    | (refine ResK_same (pureL_map rule_pure _).noRef ?_; conv => whnf)
    | (refine NoRefK_intro (pureL_map rule_pure _).noRef ?_; conv => whnf)
  as_aux_lemma =>
    refine CallK_intro (c_laws_toModelT a0 (by omega) k0) ?_
    conv => whnf
    repeat first
      | (refine takeK_full (by first | exact rfl | simp [mkPickL_len]) ?_; conv => whnf)
      | (refine NeedK_intro (by first | rfl | exact modelClean _ | exact (pureL_map opt_pure _).noRef | exact (pureL_map rule_pure _).noRef | exact (pureL_map opt_pure _).clean | exact (pureL_map rule_pure _).clean | (simp; done)) ?_; conv => whnf)
      | (refine ErK_intro _ (pureL_map opt_pure _).clean (eraseL_mapTo (g := OptV.dat) opt_erase _) ?_; conv => whnf)
      | (refine ResK_same (pureL_map opt_pure _).noRef ?_; conv => whnf)
      | (refine NoRefK_intro (pureL_map opt_pure _).noRef ?_; conv => whnf)
      | (refine ErK_intro _ (pureL_map rule_pure _).clean (eraseL_mapTo (g := (lD NodeV.dat)) rule_erase _) ?_; conv => whnf)
      | (refine ResK_same (pureL_map rule_pure _).noRef ?_; conv => whnf)
      | (refine NoRefK_intro (pureL_map rule_pure _).noRef ?_; conv => whnf)
    refine CallK_intro (c_laws_toPickS a1 (by omega) k1.2) ?_
    conv => whnf
    as_aux_lemma =>
      repeat first
        | (refine takeK_full (by first | exact rfl | simp [mkPickL_len]) ?_; conv => whnf)
        | (refine NeedK_intro (by first | rfl | exact modelClean _ | exact (pureL_map opt_pure _).noRef | exact (pureL_map rule_pure _).noRef | exact (pureL_map opt_pure _).clean | exact (pureL_map rule_pure _).clean | (simp; done)) ?_; conv => whnf)
        | (refine ErK_intro _ (pureL_map opt_pure _).clean (eraseL_mapTo (g := OptV.dat) opt_erase _) ?_; conv => whnf)
        | (refine ResK_same (pureL_map opt_pure _).noRef ?_; conv => whnf)
        | (refine NoRefK_intro (pureL_map opt_pure _).noRef ?_; conv => whnf)
        | (refine ErK_intro _ (pureL_map rule_pure _).clean (eraseL_mapTo (g := (lD NodeV.dat)) rule_erase _) ?_; conv => whnf)
        | (refine ResK_same (pureL_map rule_pure _).noRef ?_; conv => whnf)
        | (refine NoRefK_intro (pureL_map rule_pure _).noRef ?_; conv => whnf)
      refine CallK_intro (c_impl_ConflictOfV a0 k0 a1 k1) ?_
      conv => whnf
      as_aux_lemma =>
        repeat first
          | (refine takeK_full (by first | exact rfl | simp [mkPickL_len]) ?_; conv => whnf)
          | (refine NeedK_intro (by first | rfl | exact modelClean _ | exact (pureL_map opt_pure _).noRef | exact (pureL_map rule_pure _).noRef | exact (pureL_map opt_pure _).clean | exact (pureL_map rule_pure _).clean | (simp; done)) ?_; conv => whnf)
          | (refine ErK_intro _ (pureL_map opt_pure _).clean (eraseL_mapTo (g := OptV.dat) opt_erase _) ?_; conv => whnf)
          | (refine ResK_same (pureL_map opt_pure _).noRef ?_; conv => whnf)
          | (refine NoRefK_intro (pureL_map opt_pure _).noRef ?_; conv => whnf)
          | (refine ErK_intro _ (pureL_map rule_pure _).clean (eraseL_mapTo (g := (lD NodeV.dat)) rule_erase _) ?_; conv => whnf)
          | (refine ResK_same (pureL_map rule_pure _).noRef ?_; conv => whnf)
          | (refine NoRefK_intro (pureL_map rule_pure _).noRef ?_; conv => whnf)
        refine CallK_tr (c_laws_eqPickS _ _ hr hr) (fun _ => ?_) (fun h => absurd rfl h)
        conv => whnf
        refine brNBEq (fun _ => ?_) (fun h => absurd rfl h)
        conv => whnf
        refine CallK_intro (c_laws_toModel a0 k0 (by omega)) ?_
        conv => whnf
        repeat first
          | (refine takeK_full (by first | exact rfl | simp [mkPickL_len]) ?_; conv => whnf)
          | (refine NeedK_intro (by first | rfl | exact modelClean _ | exact (pureL_map opt_pure _).noRef | exact (pureL_map rule_pure _).noRef | exact (pureL_map opt_pure _).clean | exact (pureL_map rule_pure _).clean | (simp; done)) ?_; conv => whnf)
          | (refine ErK_intro _ (pureL_map opt_pure _).clean (eraseL_mapTo (g := OptV.dat) opt_erase _) ?_; conv => whnf)
          | (refine ResK_same (pureL_map opt_pure _).noRef ?_; conv => whnf)
          | (refine NoRefK_intro (pureL_map opt_pure _).noRef ?_; conv => whnf)
          | (refine ErK_intro _ (pureL_map rule_pure _).clean (eraseL_mapTo (g := (lD NodeV.dat)) rule_erase _) ?_; conv => whnf)
          | (refine ResK_same (pureL_map rule_pure _).noRef ?_; conv => whnf)
          | (refine NoRefK_intro (pureL_map rule_pure _).noRef ?_; conv => whnf)
        refine CallK_tr (c_laws_eqModel _ _ k0 k0) (fun _ => ?_) (fun h => absurd rfl h)
        conv => whnf
        refine CallK_intro (c_laws_toPickS a1 (by omega) k1.2) ?_
        conv => whnf
        repeat first
          | (refine takeK_full (by first | exact rfl | simp [mkPickL_len]) ?_; conv => whnf)
          | (refine NeedK_intro (by first | rfl | exact modelClean _ | exact (pureL_map opt_pure _).noRef | exact (pureL_map rule_pure _).noRef | exact (pureL_map opt_pure _).clean | exact (pureL_map rule_pure _).clean | (simp; done)) ?_; conv => whnf)
          | (refine ErK_intro _ (pureL_map opt_pure _).clean (eraseL_mapTo (g := OptV.dat) opt_erase _) ?_; conv => whnf)
          | (refine ResK_same (pureL_map opt_pure _).noRef ?_; conv => whnf)
          | (refine NoRefK_intro (pureL_map opt_pure _).noRef ?_; conv => whnf)
          | (refine ErK_intro _ (pureL_map rule_pure _).clean (eraseL_mapTo (g := (lD NodeV.dat)) rule_erase _) ?_; conv => whnf)
          | (refine ResK_same (pureL_map rule_pure _).noRef ?_; conv => whnf)
          | (refine NoRefK_intro (pureL_map rule_pure _).noRef ?_; conv => whnf)
        refine CallK_tr (c_laws_eqPickS _ _ k1 k1) (fun _ => ?_) (fun h => absurd rfl h)
        conv => whnf
        repeat first
          | (refine takeK_full (by first | exact rfl | simp [mkPickL_len]) ?_; conv => whnf)
          | (refine NeedK_intro (by first | rfl | exact modelClean _ | exact (pureL_map opt_pure _).noRef | exact (pureL_map rule_pure _).noRef | exact (pureL_map opt_pure _).clean | exact (pureL_map rule_pure _).clean | (simp; done)) ?_; conv => whnf)
          | (refine ErK_intro _ (pureL_map opt_pure _).clean (eraseL_mapTo (g := OptV.dat) opt_erase _) ?_; conv => whnf)
          | (refine ResK_same (pureL_map opt_pure _).noRef ?_; conv => whnf)
          | (refine NoRefK_intro (pureL_map opt_pure _).noRef ?_; conv => whnf)
          | (refine ErK_intro _ (pureL_map rule_pure _).clean (eraseL_mapTo (g := (lD NodeV.dat)) rule_erase _) ?_; conv => whnf)
          | (refine ResK_same (pureL_map rule_pure _).noRef ?_; conv => whnf)
          | (refine NoRefK_intro (pureL_map rule_pure _).noRef ?_; conv => whnf)
        refine TCallK_intro (c_laws_markModel _ (by omega) _ (by omega) (by omega)) ?_
        conv => whnf
        as_aux_lemma =>
          repeat first
            | (refine takeK_full (by first | exact rfl | simp [mkPickL_len]) ?_; conv => whnf)
            | (refine NeedK_intro (by first | rfl | exact modelClean _ | exact (pureL_map opt_pure _).noRef | exact (pureL_map rule_pure _).noRef | exact (pureL_map opt_pure _).clean | exact (pureL_map rule_pure _).clean | (simp; done)) ?_; conv => whnf)
            | (refine ErK_intro _ (pureL_map opt_pure _).clean (eraseL_mapTo (g := OptV.dat) opt_erase _) ?_; conv => whnf)
            | (refine ResK_same (pureL_map opt_pure _).noRef ?_; conv => whnf)
            | (refine NoRefK_intro (pureL_map opt_pure _).noRef ?_; conv => whnf)
            | (refine ErK_intro _ (pureL_map rule_pure _).clean (eraseL_mapTo (g := (lD NodeV.dat)) rule_erase _) ?_; conv => whnf)
            | (refine ResK_same (pureL_map rule_pure _).noRef ?_; conv => whnf)
            | (refine NoRefK_intro (pureL_map rule_pure _).noRef ?_; conv => whnf)
          refine LCallK_intro (c_laws_markPickS _ (by omega) _ (by omega) (by omega)) ?_
          conv => whnf
          as_aux_lemma =>
            refine brLt (fun h => by exfalso; omega) (fun _ => ?_)
            conv => whnf
            repeat first
              | (refine takeK_full (by first | exact rfl | simp [mkPickL_len]) ?_; conv => whnf)
              | (refine NeedK_intro (by first | rfl | exact modelClean _ | exact (pureL_map opt_pure _).noRef | exact (pureL_map rule_pure _).noRef | exact (pureL_map opt_pure _).clean | exact (pureL_map rule_pure _).clean | (simp; done)) ?_; conv => whnf)
              | (refine ErK_intro _ (pureL_map opt_pure _).clean (eraseL_mapTo (g := OptV.dat) opt_erase _) ?_; conv => whnf)
              | (refine ResK_same (pureL_map opt_pure _).noRef ?_; conv => whnf)
              | (refine NoRefK_intro (pureL_map opt_pure _).noRef ?_; conv => whnf)
              | (refine ErK_intro _ (pureL_map rule_pure _).clean (eraseL_mapTo (g := (lD NodeV.dat)) rule_erase _) ?_; conv => whnf)
              | (refine ResK_same (pureL_map rule_pure _).noRef ?_; conv => whnf)
              | (refine NoRefK_intro (pureL_map rule_pure _).noRef ?_; conv => whnf)
            refine CallK_tr (c_laws_eqPickS _ _ hr hr) (fun _ => ?_) (fun h => absurd rfl h)
            conv => whnf
            refine brNBEq (fun _ => ?_) (fun h => absurd rfl h)
            conv => whnf
            repeat first
              | (refine takeK_full (by first | exact rfl | simp [mkPickL_len]) ?_; conv => whnf)
              | (refine NeedK_intro (by first | rfl | exact modelClean _ | exact (pureL_map opt_pure _).noRef | exact (pureL_map rule_pure _).noRef | exact (pureL_map opt_pure _).clean | exact (pureL_map rule_pure _).clean | (simp; done)) ?_; conv => whnf)
              | (refine ErK_intro _ (pureL_map opt_pure _).clean (eraseL_mapTo (g := OptV.dat) opt_erase _) ?_; conv => whnf)
              | (refine ResK_same (pureL_map opt_pure _).noRef ?_; conv => whnf)
              | (refine NoRefK_intro (pureL_map opt_pure _).noRef ?_; conv => whnf)
              | (refine ErK_intro _ (pureL_map rule_pure _).clean (eraseL_mapTo (g := (lD NodeV.dat)) rule_erase _) ?_; conv => whnf)
              | (refine ResK_same (pureL_map rule_pure _).noRef ?_; conv => whnf)
              | (refine NoRefK_intro (pureL_map rule_pure _).noRef ?_; conv => whnf)
            refine LCallK_intro (c_laws_markPickS _ (by omega) _ (by omega) (by omega)) ?_
            conv => whnf
            as_aux_lemma =>
              repeat first
                | (refine takeK_full (by first | exact rfl | simp [mkPickL_len]) ?_; conv => whnf)
                | (refine NeedK_intro (by first | rfl | exact modelClean _ | exact (pureL_map opt_pure _).noRef | exact (pureL_map rule_pure _).noRef | exact (pureL_map opt_pure _).clean | exact (pureL_map rule_pure _).clean | (simp; done)) ?_; conv => whnf)
                | (refine ErK_intro _ (pureL_map opt_pure _).clean (eraseL_mapTo (g := OptV.dat) opt_erase _) ?_; conv => whnf)
                | (refine ResK_same (pureL_map opt_pure _).noRef ?_; conv => whnf)
                | (refine NoRefK_intro (pureL_map opt_pure _).noRef ?_; conv => whnf)
                | (refine ErK_intro _ (pureL_map rule_pure _).clean (eraseL_mapTo (g := (lD NodeV.dat)) rule_erase _) ?_; conv => whnf)
                | (refine ResK_same (pureL_map rule_pure _).noRef ?_; conv => whnf)
                | (refine NoRefK_intro (pureL_map rule_pure _).noRef ?_; conv => whnf)
              refine CallK_intro (c_laws_heldPickS _ (by omega) _ (by omega) (by omega)) ?_
              conv => whnf
              as_aux_lemma =>
                refine brLt (fun h => by exfalso; omega) (fun _ => ?_)
                conv => whnf
                refine brNEq (fun _ => ?_) (fun h => absurd rfl h)
                conv => whnf
                refine CallK_intro (c_laws_toModel a0 k0 (by omega)) ?_
                conv => whnf
                refine CallK_intro (c_laws_toPickS a1 (by omega) k1.2) ?_
                conv => whnf
                repeat first
                  | (refine takeK_full (by first | exact rfl | simp [mkPickL_len]) ?_; conv => whnf)
                  | (refine NeedK_intro (by first | rfl | exact modelClean _ | exact (pureL_map opt_pure _).noRef | exact (pureL_map rule_pure _).noRef | exact (pureL_map opt_pure _).clean | exact (pureL_map rule_pure _).clean | (simp; done)) ?_; conv => whnf)
                  | (refine ErK_intro _ (pureL_map opt_pure _).clean (eraseL_mapTo (g := OptV.dat) opt_erase _) ?_; conv => whnf)
                  | (refine ResK_same (pureL_map opt_pure _).noRef ?_; conv => whnf)
                  | (refine NoRefK_intro (pureL_map opt_pure _).noRef ?_; conv => whnf)
                  | (refine ErK_intro _ (pureL_map rule_pure _).clean (eraseL_mapTo (g := (lD NodeV.dat)) rule_erase _) ?_; conv => whnf)
                  | (refine ResK_same (pureL_map rule_pure _).noRef ?_; conv => whnf)
                  | (refine NoRefK_intro (pureL_map rule_pure _).noRef ?_; conv => whnf)
                refine CallK_intro (c_impl_ConflictOfV a0 k0 a1 k1) ?_
                conv => whnf
                as_aux_lemma =>
                  repeat first
                    | (refine takeK_full (by first | exact rfl | simp [mkPickL_len]) ?_; conv => whnf)
                    | (refine NeedK_intro (by first | rfl | exact modelClean _ | exact (pureL_map opt_pure _).noRef | exact (pureL_map rule_pure _).noRef | exact (pureL_map opt_pure _).clean | exact (pureL_map rule_pure _).clean | (simp; done)) ?_; conv => whnf)
                    | (refine ErK_intro _ (pureL_map opt_pure _).clean (eraseL_mapTo (g := OptV.dat) opt_erase _) ?_; conv => whnf)
                    | (refine ResK_same (pureL_map opt_pure _).noRef ?_; conv => whnf)
                    | (refine NoRefK_intro (pureL_map opt_pure _).noRef ?_; conv => whnf)
                    | (refine ErK_intro _ (pureL_map rule_pure _).clean (eraseL_mapTo (g := (lD NodeV.dat)) rule_erase _) ?_; conv => whnf)
                    | (refine ResK_same (pureL_map rule_pure _).noRef ?_; conv => whnf)
                    | (refine NoRefK_intro (pureL_map rule_pure _).noRef ?_; conv => whnf)
                  refine CallK_tr (c_laws_eqPickS _ _ hr hr) (fun _ => ?_) (fun h => absurd rfl h)
                  conv => whnf
                  refine brNBEq (fun _ => ?_) (fun h => absurd rfl h)
                  conv => whnf
                  repeat first
                    | (refine takeK_full (by first | exact rfl | simp [mkPickL_len]) ?_; conv => whnf)
                    | (refine NeedK_intro (by first | rfl | exact modelClean _ | exact (pureL_map opt_pure _).noRef | exact (pureL_map rule_pure _).noRef | exact (pureL_map opt_pure _).clean | exact (pureL_map rule_pure _).clean | (simp; done)) ?_; conv => whnf)
                    | (refine ErK_intro _ (pureL_map opt_pure _).clean (eraseL_mapTo (g := OptV.dat) opt_erase _) ?_; conv => whnf)
                    | (refine ResK_same (pureL_map opt_pure _).noRef ?_; conv => whnf)
                    | (refine NoRefK_intro (pureL_map opt_pure _).noRef ?_; conv => whnf)
                    | (refine ErK_intro _ (pureL_map rule_pure _).clean (eraseL_mapTo (g := (lD NodeV.dat)) rule_erase _) ?_; conv => whnf)
                    | (refine ResK_same (pureL_map rule_pure _).noRef ?_; conv => whnf)
                    | (refine NoRefK_intro (pureL_map rule_pure _).noRef ?_; conv => whnf)
                  refine CallK_intro (c_laws_heldPickS _ (by omega) _ (by omega) (by omega)) ?_
                  conv => whnf
                  as_aux_lemma =>
                    refine brLt (fun h => by exfalso; omega) (fun _ => ?_)
                    conv => whnf
                    refine brNEq (fun _ => ?_) (fun h => absurd rfl h)
                    conv => whnf


theorem law_FnExactConflictOf : ∀ xs, HasTys [ModelV.ty, .sl PickV.ty] xs → Contract Try.prog 14 (xs.map .d) (.one (.d (.sc (.bool true)))) := by
  intro xs h
  obtain ⟨d0, r0, rfl, h0, g0⟩ := HasTys_cons h
  obtain ⟨a0, rfl, k0⟩ := ModelV.dec h0
  obtain ⟨d1, r1, rfl, h1, g1⟩ := HasTys_cons g0
  obtain ⟨a1, rfl, k1⟩ := sl_dec (fun _ => PickV.dec) h1
  have k1 : okL PickV.ok a1 := k1
  cases HasTys_nil g1
  clear h0 h1
  exact law0_FnExactConflictOf a0 k0 a1 k1
end Go.DL
namespace Go.Proofs.Ythifncefbpmdiaa
open Go.ChangeShapes Go.WideShapes Go.ChangeAt Go.RowKit
theorem Try.cpD : Try.checked.prog = Try.prog := by kernel_rfl
theorem Try.ownD : ownKnob Try.checked.prog.godebug = none := by kernel_rfl
theorem Try.laidOutD : laidOutB Try.checked.prog = true := by kernel_rfl
theorem Try.lawD : ∀ xs, DL.HasTys [DL.ModelV.ty, .sl DL.PickV.ty] xs → DL.Contract Try.checked.prog 14 (xs.map .d) (.one (.d (.sc (.bool true)))) := by rw [Try.cpD]; exact DL.law_FnExactConflictOf
theorem fnExactConflictOf_lifted (os : Os) (started : os.Started) (H : Type) (enc : TypeId × Value → H) :
    ReturnsInHanded {} Try.checked os 14 .any (Rows.fnExactConflictOfSpec.pre6 enc Try.checked.prog Try.f14 Rows.fnExactConflictOfRow.domain false) (Rows.fnExactConflictOfSpec.post enc Try.checked.prog Try.f14 false true false false) := by
  refine returnsInHanded_of_change (C := Try.checked) Try.ownD started (by kernel_rfl) Try.func14
    (ChangeSpec.witness6 (enc := enc) (C := Try.checked) false ⟨#[], #[.agg #[.slice none 0 0, .slice none 0 0], .slice none 0 0], []⟩ 8 (by kernel_rfl) (by kernel_rfl) (by kernel_rfl) (by kernel_rfl)) ?_
  intro W base args ds gs before hval0 hW0 _ _
  exact DL.law_calls (P := Try.checked.prog) (fn := Try.f14) (s := Rows.fnExactConflictOfSpec) (ts := [82, 60]) (tb := 4) (tys := [DL.ModelV.ty, .sl DL.PickV.ty]) (by kernel_rfl) (by kernel_rfl) (by kernel_rfl) rfl
    (fun ds h => match ds, h with | [d0, d1], _ => rfl) Try.laidOutD (by kernel_rfl) Try.lawD W base args ds gs before @hval0 hW0
/-- The law returns true, whatever comes in. -/
theorem FnExactConflictOf_holds : Rows.FnExactConflictOfSaid :=
  OpenClaim.holds_of_wide 14 Try.f14 rfl rfl rfl rfl rfl rfl rfl ⟨rfl, rfl, rfl, rfl, rfl⟩ rfl rfl rfl rfl rfl (by kernel_rfl) Try.func14 (by kernel_rfl)
    (of_decide_eq_true (by kernel_rfl)) (by unfold Func.isWrapper; first | (rw [if_pos (by decide +kernel)]; kernel_rfl) | (rw [if_neg (by decide +kernel)]; exact ⟨rfl, rfl⟩))
    (fun os started H enc _ => fnExactConflictOf_lifted os started H enc)
end Go.Proofs.Ythifncefbpmdiaa
namespace Go.DL

end Go.DL
