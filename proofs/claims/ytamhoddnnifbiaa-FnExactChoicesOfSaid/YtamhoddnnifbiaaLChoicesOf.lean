/- The statement FnExactChoicesOfSaid: the law returns true for every input that can be read as data, and each argument reads afterwards as it read before. No conditions. -/
import Derived.Test.YtamhoddnnifbiaaM
import Derived.Test.YtamhoddnnifbiaaUG
import Derived.ProofKit
namespace Go.DL
set_option maxRecDepth 100000
set_option maxHeartbeats 2000000
set_option linter.unusedSimpArgs false
set_option linter.unusedVariables false
open Go.RowKit Go.Proofs Go.Proofs.Ytamhoddnnifbiaa

set_option maxHeartbeats 16000000 in
theorem law0_FnExactChoicesOf (a0 : ModelV) (k0 : ModelV.ok a0) : Contract Try.prog 3 [.d a0.dat] (.one (.d (.sc (.bool true)))) := by

  obtain ⟨hr, hrl⟩ := choicesV_ok a0 k0
  have hmk := mkModelK_bnd a0 1
  have hmr := mkRowsK_bnd (choicesV a0) 1
  refine contract_byR [100000 + 15, 100000 + 16, 400000 + 32, 600000 + 12, 600000 + 14, 600000 + 13, 600000 + 17, 600000 + 15, 600000 + 16, 600000 + 11, 10000000 + 17, 10000000 + 18, 10000000 + 29, 10000000 + 55, 1100000 + 5] hma hTa Try.func3 (by kernel_rfl) (by kernel_rfl) ?_
  conv => whnf
  refine CallK_sz (c_laws_szModel _ _ (by omega) (by omega) (by assumption)) (fun hc => ?_) (fun hc => ?_) <;> conv => whnf
  · refine brLt (fun h => ?_) (fun h => by exfalso; omega)
    conv => whnf
  refine brLt (fun h => by exfalso; omega) (fun _ => ?_)
  conv => whnf
  refine CallK_intro (c_laws_toModel a0 k0 (by omega)) ?_
  conv => whnf
  repeat first
    | (refine takeK_full (by first | exact rfl) ?_; conv => whnf)
    | (refine NeedK_intro (by first | rfl | exact modelClean _ | exact (pureL_map opt_pure _).noRef | exact (pureL_map rule_pure _).noRef | exact (pureL_map opt_pure _).clean | exact (pureL_map rule_pure _).clean | exact (pureL_map row_pure _).clean | exact (pureL_map row_pure _).noRef | (simp [mkRows_len]; done)) ?_; conv => whnf)
    | (refine ErK_intro _ (pureL_map opt_pure _).clean (eraseL_mapTo (g := OptV.dat) opt_erase _) ?_; conv => whnf)
    | (refine ResK_same (pureL_map opt_pure _).noRef ?_; conv => whnf)
    | (refine NoRefK_intro (pureL_map opt_pure _).noRef ?_; conv => whnf)
    | (refine ErK_intro _ (pureL_map rule_pure _).clean (eraseL_mapTo (g := (lD NodeV.dat)) rule_erase _) ?_; conv => whnf)
    | (refine ResK_same (pureL_map rule_pure _).noRef ?_; conv => whnf)
    | (refine NoRefK_intro (pureL_map rule_pure _).noRef ?_; conv => whnf)
    | (refine ErK_intro _ (pureL_map row_pure _).clean (eraseL_mapTo (g := (lD PickV.dat)) row_erase _) ?_; conv => whnf)
    | (refine ResK_same (pureL_map row_pure _).noRef ?_; conv => whnf)
    | (refine NoRefK_intro (pureL_map row_pure _).noRef ?_; conv => whnf)
  refine CallK_intro (c_spec_ChoicesOfV a0 k0) ?_
  conv => whnf
  refine WkK_intro [(1, .key 1), (4, .fz)] ?_
  conv => whnf
  repeat first
    | (refine takeK_full (by first | exact rfl) ?_; conv => whnf)
    | (refine NeedK_intro (by first | rfl | exact modelClean _ | exact (pureL_map opt_pure _).noRef | exact (pureL_map rule_pure _).noRef | exact (pureL_map opt_pure _).clean | exact (pureL_map rule_pure _).clean | exact (pureL_map row_pure _).clean | exact (pureL_map row_pure _).noRef | (simp [mkRows_len]; done)) ?_; conv => whnf)
    | (refine ErK_intro _ (pureL_map opt_pure _).clean (eraseL_mapTo (g := OptV.dat) opt_erase _) ?_; conv => whnf)
    | (refine ResK_same (pureL_map opt_pure _).noRef ?_; conv => whnf)
    | (refine NoRefK_intro (pureL_map opt_pure _).noRef ?_; conv => whnf)
    | (refine ErK_intro _ (pureL_map rule_pure _).clean (eraseL_mapTo (g := (lD NodeV.dat)) rule_erase _) ?_; conv => whnf)
    | (refine ResK_same (pureL_map rule_pure _).noRef ?_; conv => whnf)
    | (refine NoRefK_intro (pureL_map rule_pure _).noRef ?_; conv => whnf)
    | (refine ErK_intro _ (pureL_map row_pure _).clean (eraseL_mapTo (g := (lD PickV.dat)) row_erase _) ?_; conv => whnf)
    | (refine ResK_same (pureL_map row_pure _).noRef ?_; conv => whnf)
    | (refine NoRefK_intro (pureL_map row_pure _).noRef ?_; conv => whnf)
  as_aux_lemma =>
    refine CallK_intro (c_laws_toModelT a0 (by omega) k0) ?_
    conv => whnf
    repeat first
      | (refine takeK_full (by first | exact rfl) ?_; conv => whnf)
      | (refine NeedK_intro (by first | rfl | exact modelClean _ | exact (pureL_map opt_pure _).noRef | exact (pureL_map rule_pure _).noRef | exact (pureL_map opt_pure _).clean | exact (pureL_map rule_pure _).clean | exact (pureL_map row_pure _).clean | exact (pureL_map row_pure _).noRef | (simp [mkRows_len]; done)) ?_; conv => whnf)
      | (refine ErK_intro _ (pureL_map opt_pure _).clean (eraseL_mapTo (g := OptV.dat) opt_erase _) ?_; conv => whnf)
      | (refine ResK_same (pureL_map opt_pure _).noRef ?_; conv => whnf)
      | (refine NoRefK_intro (pureL_map opt_pure _).noRef ?_; conv => whnf)
      | (refine ErK_intro _ (pureL_map rule_pure _).clean (eraseL_mapTo (g := (lD NodeV.dat)) rule_erase _) ?_; conv => whnf)
      | (refine ResK_same (pureL_map rule_pure _).noRef ?_; conv => whnf)
      | (refine NoRefK_intro (pureL_map rule_pure _).noRef ?_; conv => whnf)
      | (refine ErK_intro _ (pureL_map row_pure _).clean (eraseL_mapTo (g := (lD PickV.dat)) row_erase _) ?_; conv => whnf)
      | (refine ResK_same (pureL_map row_pure _).noRef ?_; conv => whnf)
      | (refine NoRefK_intro (pureL_map row_pure _).noRef ?_; conv => whnf)
    repeat first
      | (refine takeK_full (by first | exact rfl) ?_; conv => whnf)
      | (refine NeedK_intro (by first | rfl | exact modelClean _ | exact (pureL_map opt_pure _).noRef | exact (pureL_map rule_pure _).noRef | exact (pureL_map opt_pure _).clean | exact (pureL_map rule_pure _).clean | exact (pureL_map row_pure _).clean | exact (pureL_map row_pure _).noRef | (simp [mkRows_len]; done)) ?_; conv => whnf)
      | (refine ErK_intro _ (pureL_map opt_pure _).clean (eraseL_mapTo (g := OptV.dat) opt_erase _) ?_; conv => whnf)
      | (refine ResK_same (pureL_map opt_pure _).noRef ?_; conv => whnf)
      | (refine NoRefK_intro (pureL_map opt_pure _).noRef ?_; conv => whnf)
      | (refine ErK_intro _ (pureL_map rule_pure _).clean (eraseL_mapTo (g := (lD NodeV.dat)) rule_erase _) ?_; conv => whnf)
      | (refine ResK_same (pureL_map rule_pure _).noRef ?_; conv => whnf)
      | (refine NoRefK_intro (pureL_map rule_pure _).noRef ?_; conv => whnf)
      | (refine ErK_intro _ (pureL_map row_pure _).clean (eraseL_mapTo (g := (lD PickV.dat)) row_erase _) ?_; conv => whnf)
      | (refine ResK_same (pureL_map row_pure _).noRef ?_; conv => whnf)
      | (refine NoRefK_intro (pureL_map row_pure _).noRef ?_; conv => whnf)
    refine CallK_intro (c_impl_ChoicesOfT a0 k0) ?_
    conv => whnf
    refine NeedK_intro (pureL_map row_pure _).clean ?_
    conv => whnf
    as_aux_lemma =>
      repeat first
        | (refine takeK_full (by first | exact rfl) ?_; conv => whnf)
        | (refine NeedK_intro (by first | rfl | exact modelClean _ | exact (pureL_map opt_pure _).noRef | exact (pureL_map rule_pure _).noRef | exact (pureL_map opt_pure _).clean | exact (pureL_map rule_pure _).clean | exact (pureL_map row_pure _).clean | exact (pureL_map row_pure _).noRef | (simp [mkRows_len]; done)) ?_; conv => whnf)
        | (refine ErK_intro _ (pureL_map opt_pure _).clean (eraseL_mapTo (g := OptV.dat) opt_erase _) ?_; conv => whnf)
        | (refine ResK_same (pureL_map opt_pure _).noRef ?_; conv => whnf)
        | (refine NoRefK_intro (pureL_map opt_pure _).noRef ?_; conv => whnf)
        | (refine ErK_intro _ (pureL_map rule_pure _).clean (eraseL_mapTo (g := (lD NodeV.dat)) rule_erase _) ?_; conv => whnf)
        | (refine ResK_same (pureL_map rule_pure _).noRef ?_; conv => whnf)
        | (refine NoRefK_intro (pureL_map rule_pure _).noRef ?_; conv => whnf)
        | (refine ErK_intro _ (pureL_map row_pure _).clean (eraseL_mapTo (g := (lD PickV.dat)) row_erase _) ?_; conv => whnf)
        | (refine ResK_same (pureL_map row_pure _).noRef ?_; conv => whnf)
        | (refine NoRefK_intro (pureL_map row_pure _).noRef ?_; conv => whnf)
      refine CallK_tr (c_laws_eqPickSS _ _ hr hr) (fun _ => ?_) (fun h => absurd rfl h)
      conv => whnf
      refine CallK_intro (c_laws_toModel a0 k0 (by omega)) ?_
      conv => whnf
      repeat first
        | (refine takeK_full (by first | exact rfl) ?_; conv => whnf)
        | (refine NeedK_intro (by first | rfl | exact modelClean _ | exact (pureL_map opt_pure _).noRef | exact (pureL_map rule_pure _).noRef | exact (pureL_map opt_pure _).clean | exact (pureL_map rule_pure _).clean | exact (pureL_map row_pure _).clean | exact (pureL_map row_pure _).noRef | (simp [mkRows_len]; done)) ?_; conv => whnf)
        | (refine ErK_intro _ (pureL_map opt_pure _).clean (eraseL_mapTo (g := OptV.dat) opt_erase _) ?_; conv => whnf)
        | (refine ResK_same (pureL_map opt_pure _).noRef ?_; conv => whnf)
        | (refine NoRefK_intro (pureL_map opt_pure _).noRef ?_; conv => whnf)
        | (refine ErK_intro _ (pureL_map rule_pure _).clean (eraseL_mapTo (g := (lD NodeV.dat)) rule_erase _) ?_; conv => whnf)
        | (refine ResK_same (pureL_map rule_pure _).noRef ?_; conv => whnf)
        | (refine NoRefK_intro (pureL_map rule_pure _).noRef ?_; conv => whnf)
        | (refine ErK_intro _ (pureL_map row_pure _).clean (eraseL_mapTo (g := (lD PickV.dat)) row_erase _) ?_; conv => whnf)
        | (refine ResK_same (pureL_map row_pure _).noRef ?_; conv => whnf)
        | (refine NoRefK_intro (pureL_map row_pure _).noRef ?_; conv => whnf)
      refine CallK_tr (c_laws_eqModel _ _ k0 k0) (fun _ => ?_) (fun h => absurd rfl h)
      conv => whnf
      repeat first
        | (refine takeK_full (by first | exact rfl) ?_; conv => whnf)
        | (refine NeedK_intro (by first | rfl | exact modelClean _ | exact (pureL_map opt_pure _).noRef | exact (pureL_map rule_pure _).noRef | exact (pureL_map opt_pure _).clean | exact (pureL_map rule_pure _).clean | exact (pureL_map row_pure _).clean | exact (pureL_map row_pure _).noRef | (simp [mkRows_len]; done)) ?_; conv => whnf)
        | (refine ErK_intro _ (pureL_map opt_pure _).clean (eraseL_mapTo (g := OptV.dat) opt_erase _) ?_; conv => whnf)
        | (refine ResK_same (pureL_map opt_pure _).noRef ?_; conv => whnf)
        | (refine NoRefK_intro (pureL_map opt_pure _).noRef ?_; conv => whnf)
        | (refine ErK_intro _ (pureL_map rule_pure _).clean (eraseL_mapTo (g := (lD NodeV.dat)) rule_erase _) ?_; conv => whnf)
        | (refine ResK_same (pureL_map rule_pure _).noRef ?_; conv => whnf)
        | (refine NoRefK_intro (pureL_map rule_pure _).noRef ?_; conv => whnf)
        | (refine ErK_intro _ (pureL_map row_pure _).clean (eraseL_mapTo (g := (lD PickV.dat)) row_erase _) ?_; conv => whnf)
        | (refine ResK_same (pureL_map row_pure _).noRef ?_; conv => whnf)
        | (refine NoRefK_intro (pureL_map row_pure _).noRef ?_; conv => whnf)
      refine TCallK_intro (c_laws_markModel _ (by omega) _ (by omega) (by omega)) ?_
      conv => whnf
      as_aux_lemma =>
        refine brLt (fun h => by exfalso; omega) (fun _ => ?_)
        conv => whnf
        repeat first
          | (refine takeK_full (by first | exact rfl) ?_; conv => whnf)
          | (refine NeedK_intro (by first | rfl | exact modelClean _ | exact (pureL_map opt_pure _).noRef | exact (pureL_map rule_pure _).noRef | exact (pureL_map opt_pure _).clean | exact (pureL_map rule_pure _).clean | exact (pureL_map row_pure _).clean | exact (pureL_map row_pure _).noRef | (simp [mkRows_len]; done)) ?_; conv => whnf)
          | (refine ErK_intro _ (pureL_map opt_pure _).clean (eraseL_mapTo (g := OptV.dat) opt_erase _) ?_; conv => whnf)
          | (refine ResK_same (pureL_map opt_pure _).noRef ?_; conv => whnf)
          | (refine NoRefK_intro (pureL_map opt_pure _).noRef ?_; conv => whnf)
          | (refine ErK_intro _ (pureL_map rule_pure _).clean (eraseL_mapTo (g := (lD NodeV.dat)) rule_erase _) ?_; conv => whnf)
          | (refine ResK_same (pureL_map rule_pure _).noRef ?_; conv => whnf)
          | (refine NoRefK_intro (pureL_map rule_pure _).noRef ?_; conv => whnf)
          | (refine ErK_intro _ (pureL_map row_pure _).clean (eraseL_mapTo (g := (lD PickV.dat)) row_erase _) ?_; conv => whnf)
          | (refine ResK_same (pureL_map row_pure _).noRef ?_; conv => whnf)
          | (refine NoRefK_intro (pureL_map row_pure _).noRef ?_; conv => whnf)
        refine CallK_tr (c_laws_eqPickSS _ _ hr hr) (fun _ => ?_) (fun h => absurd rfl h)
        conv => whnf
        repeat first
          | (refine takeK_full (by first | exact rfl) ?_; conv => whnf)
          | (refine NeedK_intro (by first | rfl | exact modelClean _ | exact (pureL_map opt_pure _).noRef | exact (pureL_map rule_pure _).noRef | exact (pureL_map opt_pure _).clean | exact (pureL_map rule_pure _).clean | exact (pureL_map row_pure _).clean | exact (pureL_map row_pure _).noRef | (simp [mkRows_len]; done)) ?_; conv => whnf)
          | (refine ErK_intro _ (pureL_map opt_pure _).clean (eraseL_mapTo (g := OptV.dat) opt_erase _) ?_; conv => whnf)
          | (refine ResK_same (pureL_map opt_pure _).noRef ?_; conv => whnf)
          | (refine NoRefK_intro (pureL_map opt_pure _).noRef ?_; conv => whnf)
          | (refine ErK_intro _ (pureL_map rule_pure _).clean (eraseL_mapTo (g := (lD NodeV.dat)) rule_erase _) ?_; conv => whnf)
          | (refine ResK_same (pureL_map rule_pure _).noRef ?_; conv => whnf)
          | (refine NoRefK_intro (pureL_map rule_pure _).noRef ?_; conv => whnf)
          | (refine ErK_intro _ (pureL_map row_pure _).clean (eraseL_mapTo (g := (lD PickV.dat)) row_erase _) ?_; conv => whnf)
          | (refine ResK_same (pureL_map row_pure _).noRef ?_; conv => whnf)
          | (refine NoRefK_intro (pureL_map row_pure _).noRef ?_; conv => whnf)
        refine TCallK_intro (c_laws_markPickSS _ (by omega) _ (by omega) (by omega)) ?_
        conv => whnf
        as_aux_lemma =>
          repeat first
            | (refine takeK_full (by first | exact rfl) ?_; conv => whnf)
            | (refine NeedK_intro (by first | rfl | exact modelClean _ | exact (pureL_map opt_pure _).noRef | exact (pureL_map rule_pure _).noRef | exact (pureL_map opt_pure _).clean | exact (pureL_map rule_pure _).clean | exact (pureL_map row_pure _).clean | exact (pureL_map row_pure _).noRef | (simp [mkRows_len]; done)) ?_; conv => whnf)
            | (refine ErK_intro _ (pureL_map opt_pure _).clean (eraseL_mapTo (g := OptV.dat) opt_erase _) ?_; conv => whnf)
            | (refine ResK_same (pureL_map opt_pure _).noRef ?_; conv => whnf)
            | (refine NoRefK_intro (pureL_map opt_pure _).noRef ?_; conv => whnf)
            | (refine ErK_intro _ (pureL_map rule_pure _).clean (eraseL_mapTo (g := (lD NodeV.dat)) rule_erase _) ?_; conv => whnf)
            | (refine ResK_same (pureL_map rule_pure _).noRef ?_; conv => whnf)
            | (refine NoRefK_intro (pureL_map rule_pure _).noRef ?_; conv => whnf)
            | (refine ErK_intro _ (pureL_map row_pure _).clean (eraseL_mapTo (g := (lD PickV.dat)) row_erase _) ?_; conv => whnf)
            | (refine ResK_same (pureL_map row_pure _).noRef ?_; conv => whnf)
            | (refine NoRefK_intro (pureL_map row_pure _).noRef ?_; conv => whnf)
          refine CallK_intro (c_laws_heldPickSS _ (by omega) _ (by omega) (by omega)) ?_
          conv => whnf
          as_aux_lemma =>
            refine brLt (fun h => by exfalso; omega) (fun _ => ?_)
            conv => whnf
            refine brNEq (fun _ => ?_) (fun h => absurd rfl h)
            conv => whnf
            refine CallK_intro (c_laws_toModel a0 k0 (by omega)) ?_
            conv => whnf
            repeat first
              | (refine takeK_full (by first | exact rfl) ?_; conv => whnf)
              | (refine NeedK_intro (by first | rfl | exact modelClean _ | exact (pureL_map opt_pure _).noRef | exact (pureL_map rule_pure _).noRef | exact (pureL_map opt_pure _).clean | exact (pureL_map rule_pure _).clean | exact (pureL_map row_pure _).clean | exact (pureL_map row_pure _).noRef | (simp [mkRows_len]; done)) ?_; conv => whnf)
              | (refine ErK_intro _ (pureL_map opt_pure _).clean (eraseL_mapTo (g := OptV.dat) opt_erase _) ?_; conv => whnf)
              | (refine ResK_same (pureL_map opt_pure _).noRef ?_; conv => whnf)
              | (refine NoRefK_intro (pureL_map opt_pure _).noRef ?_; conv => whnf)
              | (refine ErK_intro _ (pureL_map rule_pure _).clean (eraseL_mapTo (g := (lD NodeV.dat)) rule_erase _) ?_; conv => whnf)
              | (refine ResK_same (pureL_map rule_pure _).noRef ?_; conv => whnf)
              | (refine NoRefK_intro (pureL_map rule_pure _).noRef ?_; conv => whnf)
              | (refine ErK_intro _ (pureL_map row_pure _).clean (eraseL_mapTo (g := (lD PickV.dat)) row_erase _) ?_; conv => whnf)
              | (refine ResK_same (pureL_map row_pure _).noRef ?_; conv => whnf)
              | (refine NoRefK_intro (pureL_map row_pure _).noRef ?_; conv => whnf)
            refine CallK_intro (c_impl_ChoicesOfT a0 k0) ?_
            conv => whnf
            refine NeedK_intro (pureL_map row_pure _).clean ?_
            conv => whnf
            as_aux_lemma =>
              repeat first
                | (refine takeK_full (by first | exact rfl) ?_; conv => whnf)
                | (refine NeedK_intro (by first | rfl | exact modelClean _ | exact (pureL_map opt_pure _).noRef | exact (pureL_map rule_pure _).noRef | exact (pureL_map opt_pure _).clean | exact (pureL_map rule_pure _).clean | exact (pureL_map row_pure _).clean | exact (pureL_map row_pure _).noRef | (simp [mkRows_len]; done)) ?_; conv => whnf)
                | (refine ErK_intro _ (pureL_map opt_pure _).clean (eraseL_mapTo (g := OptV.dat) opt_erase _) ?_; conv => whnf)
                | (refine ResK_same (pureL_map opt_pure _).noRef ?_; conv => whnf)
                | (refine NoRefK_intro (pureL_map opt_pure _).noRef ?_; conv => whnf)
                | (refine ErK_intro _ (pureL_map rule_pure _).clean (eraseL_mapTo (g := (lD NodeV.dat)) rule_erase _) ?_; conv => whnf)
                | (refine ResK_same (pureL_map rule_pure _).noRef ?_; conv => whnf)
                | (refine NoRefK_intro (pureL_map rule_pure _).noRef ?_; conv => whnf)
                | (refine ErK_intro _ (pureL_map row_pure _).clean (eraseL_mapTo (g := (lD PickV.dat)) row_erase _) ?_; conv => whnf)
                | (refine ResK_same (pureL_map row_pure _).noRef ?_; conv => whnf)
                | (refine NoRefK_intro (pureL_map row_pure _).noRef ?_; conv => whnf)
              refine CallK_tr (c_laws_eqPickSS _ _ hr hr) (fun _ => ?_) (fun h => absurd rfl h)
              conv => whnf
              repeat first
                | (refine takeK_full (by first | exact rfl) ?_; conv => whnf)
                | (refine NeedK_intro (by first | rfl | exact modelClean _ | exact (pureL_map opt_pure _).noRef | exact (pureL_map rule_pure _).noRef | exact (pureL_map opt_pure _).clean | exact (pureL_map rule_pure _).clean | exact (pureL_map row_pure _).clean | exact (pureL_map row_pure _).noRef | (simp [mkRows_len]; done)) ?_; conv => whnf)
                | (refine ErK_intro _ (pureL_map opt_pure _).clean (eraseL_mapTo (g := OptV.dat) opt_erase _) ?_; conv => whnf)
                | (refine ResK_same (pureL_map opt_pure _).noRef ?_; conv => whnf)
                | (refine NoRefK_intro (pureL_map opt_pure _).noRef ?_; conv => whnf)
                | (refine ErK_intro _ (pureL_map rule_pure _).clean (eraseL_mapTo (g := (lD NodeV.dat)) rule_erase _) ?_; conv => whnf)
                | (refine ResK_same (pureL_map rule_pure _).noRef ?_; conv => whnf)
                | (refine NoRefK_intro (pureL_map rule_pure _).noRef ?_; conv => whnf)
                | (refine ErK_intro _ (pureL_map row_pure _).clean (eraseL_mapTo (g := (lD PickV.dat)) row_erase _) ?_; conv => whnf)
                | (refine ResK_same (pureL_map row_pure _).noRef ?_; conv => whnf)
                | (refine NoRefK_intro (pureL_map row_pure _).noRef ?_; conv => whnf)
              refine CallK_intro (c_laws_heldPickSS _ (by omega) _ (by omega) (by omega)) ?_
              conv => whnf
              as_aux_lemma =>
                refine brLt (fun h => by exfalso; omega) (fun _ => ?_)
                conv => whnf
                refine brNEq (fun _ => ?_) (fun h => absurd rfl h)
                conv => whnf


theorem law_FnExactChoicesOf : ∀ xs, HasTys [ModelV.ty] xs → Contract Try.prog 3 (xs.map .d) (.one (.d (.sc (.bool true)))) := by
  intro xs h
  obtain ⟨d0, r0, rfl, h0, g0⟩ := HasTys_cons h
  obtain ⟨a0, rfl, k0⟩ := ModelV.dec h0
  cases HasTys_nil g0
  clear h0
  exact law0_FnExactChoicesOf a0 k0
end Go.DL
namespace Go.Proofs.Ytamhoddnnifbiaa
open Go.ChangeShapes Go.WideShapes Go.ChangeAt Go.RowKit
theorem Try.cpD : Try.checked.prog = Try.prog := by kernel_rfl
theorem Try.ownD : ownKnob Try.checked.prog.godebug = none := by kernel_rfl
theorem Try.laidOutD : laidOutB Try.checked.prog = true := by kernel_rfl
theorem Try.lawD : ∀ xs, DL.HasTys [DL.ModelV.ty] xs → DL.Contract Try.checked.prog 3 (xs.map .d) (.one (.d (.sc (.bool true)))) := by rw [Try.cpD]; exact DL.law_FnExactChoicesOf
theorem fnExactChoicesOf_lifted (os : Os) (started : os.Started) (H : Type) (enc : TypeId × Value → H) :
    ReturnsInHanded {} Try.checked os 3 .any (Rows.fnExactChoicesOfSpec.pre6 enc Try.checked.prog Try.f3 Rows.fnExactChoicesOfRow.domain false) (Rows.fnExactChoicesOfSpec.post enc Try.checked.prog Try.f3 false true false false) := by
  refine returnsInHanded_of_change (C := Try.checked) Try.ownD started (by kernel_rfl) Try.func3
    (ChangeSpec.witness6 (enc := enc) (C := Try.checked) false ⟨#[], #[.agg #[.slice none 0 0, .slice none 0 0]], []⟩ 8 (by kernel_rfl) (by kernel_rfl) (by kernel_rfl) (by kernel_rfl)) ?_
  intro W base args ds gs before hval0 hW0 _ _
  exact DL.law_calls (P := Try.checked.prog) (fn := Try.f3) (s := Rows.fnExactChoicesOfSpec) (ts := [25]) (tb := 4) (tys := [DL.ModelV.ty]) (by kernel_rfl) (by kernel_rfl) (by kernel_rfl) rfl
    (fun ds h => match ds, h with | [d0], _ => rfl) Try.laidOutD (by kernel_rfl) Try.lawD W base args ds gs before @hval0 hW0
/-- The law returns true, whatever comes in. -/
theorem FnExactChoicesOf_holds : Rows.FnExactChoicesOfSaid :=
  OpenClaim.holds_of_wide 3 Try.f3 rfl rfl rfl rfl rfl rfl rfl ⟨rfl, rfl, rfl, rfl, rfl⟩ rfl rfl rfl rfl rfl (by kernel_rfl) Try.func3 (by kernel_rfl)
    (of_decide_eq_true (by kernel_rfl)) (by unfold Func.isWrapper; first | (rw [if_pos (by decide +kernel)]; kernel_rfl) | (rw [if_neg (by decide +kernel)]; exact ⟨rfl, rfl⟩))
    (fun os started H enc _ => fnExactChoicesOf_lifted os started H enc)
end Go.Proofs.Ytamhoddnnifbiaa
namespace Go.DL

end Go.DL
