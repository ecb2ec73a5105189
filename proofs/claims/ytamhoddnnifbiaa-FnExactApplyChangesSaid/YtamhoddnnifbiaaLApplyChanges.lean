/- The statement FnExactApplyChangesSaid: the law returns true for every input that can be read as data, and each argument reads afterwards as it read before. No conditions. -/
import Derived.Test.YtamhoddnnifbiaaM
import Derived.Test.YtamhoddnnifbiaaS2
import Derived.Test.YtamhoddnnifbiaaUF
import Derived.ProofKit
namespace Go.DL
set_option maxRecDepth 100000
set_option maxHeartbeats 2000000
set_option linter.unusedSimpArgs false
set_option linter.unusedVariables false
open Go.RowKit Go.Proofs Go.Proofs.Ytamhoddnnifbiaa

set_option maxHeartbeats 16000000 in
theorem law0_FnExactApplyChanges (a0 : List ItemV) (k0 : okL ItemV.ok a0) (a1 : List LineV) (k1 : okL LineV.ok a1) (a2 : List ChangeV) (k2 : okL ChangeV.ok a2) : Contract Try.prog 8 [.d (lD ItemV.dat a0), .d (lD LineV.dat a1), .d (lD ChangeV.dat a2)] (.one (.d (.sc (.bool true)))) := by
  have lw0 := wtL_len (wt := ItemV.wt) (l := a0)
  have lw1 := wtL_len (wt := LineV.wt) (l := a1)
  have lw2 := wtL_len (wt := ChangeV.wt) (l := a2)
  obtain ⟨hr, hrl⟩ := appsV_ok a0 k0 a1 k1 a2 k2
  have hmk := mkLk_bnd a1 (1 + 8 * (a0.length : Int))
  have hmr := mkLk_bnd (appsV a0 a1 a2) 1
  refine contract_byR [100000 + 30, 100000 + 46, 100000 + 29, 600000 + 44, 600000 + 26, 600000 + 32, 600000 + 30, 600000 + 23, 10000000 + 39, 10000000 + 42, 10000000 + 74, 10000000 + 119, 1100000 + 11, 1100000 + 12, 1100000 + 13, 1100000 + 14, 1100000 + 15, 1100000 + 25, 1100000 + 26, 1100000 + 27, 1100000 + 31, 1100000 + 33, 1100000 + 38, 1100000 + 42] hma hTa Try.func8 (by kernel_rfl) (by kernel_rfl) ?_
  conv => whnf
  refine CallK_sz (c_laws_szItemS _ _ (by omega) (by omega) (by assumption)) (fun hc => ?_) (fun hc => ?_) <;> conv => whnf
  · refine brLt (fun h => ?_) (fun h => by exfalso; omega)
    conv => whnf
  refine brLt (fun h => by exfalso; omega) (fun _ => ?_)
  conv => whnf
  refine CallK_sz (c_laws_szBillLineS _ _ (by omega) (by omega) (by assumption)) (fun hc => ?_) (fun hc => ?_) <;> conv => whnf
  · refine brLt (fun h => ?_) (fun h => by exfalso; omega)
    conv => whnf
  refine brLt (fun h => by exfalso; omega) (fun _ => ?_)
  conv => whnf
  refine CallK_sz (c_laws_szChangeS _ _ (by omega) (by omega) (by assumption)) (fun hc => ?_) (fun hc => ?_) <;> conv => whnf
  · refine brLt (fun h => ?_) (fun h => by exfalso; omega)
    conv => whnf
  refine brLt (fun h => by exfalso; omega) (fun _ => ?_)
  conv => whnf
  refine CallK_intro (c_laws_toItemS a0 (by omega) k0.2) ?_
  conv => whnf
  refine CallK_intro (c_laws_toBillLineS a1 (by omega) k1.2) ?_
  conv => whnf
  refine CallK_intro (c_laws_toChangeS a2 (by omega) k2.2) ?_
  conv => whnf
  repeat first
    | (refine takeK_full (by first | exact rfl) ?_; conv => whnf)
    | (refine NeedK_intro (by first | rfl | exact (pureL_map trd_pure _).clean | exact (pureL_map trd_pure _).noRef | exact (pureL_map trd_pure _).clean | exact (pureL_map trd_pure _).noRef | (simp [mkLs_len]; done)) ?_; conv => whnf)
    | (refine ErK_intro _ (pureL_map trd_pure _).clean (eraseL_mapTo (g := LineV.dat) trd_erase _) ?_; conv => whnf)
    | (refine ResK_same (pureL_map trd_pure _).noRef ?_; conv => whnf)
    | (refine NoRefK_intro (pureL_map trd_pure _).noRef ?_; conv => whnf)
  refine CallK_intro (c_spec_ApplyChangesV a0 k0 a1 k1 a2 k2) ?_
  conv => whnf
  refine WkK_intro [(0, .pl), (1, .pl), (2, .pl), (8, .fz), (9, .pl)] ?_
  conv => whnf
  repeat first
    | (refine takeK_full (by first | exact rfl) ?_; conv => whnf)
    | (refine NeedK_intro (by first | rfl | exact (pureL_map trd_pure _).clean | exact (pureL_map trd_pure _).noRef | exact (pureL_map trd_pure _).clean | exact (pureL_map trd_pure _).noRef | (simp [mkLs_len]; done)) ?_; conv => whnf)
    | (refine ErK_intro _ (pureL_map trd_pure _).clean (eraseL_mapTo (g := LineV.dat) trd_erase _) ?_; conv => whnf)
    | (refine ResK_same (pureL_map trd_pure _).noRef ?_; conv => whnf)
    | (refine NoRefK_intro (pureL_map trd_pure _).noRef ?_; conv => whnf)
  as_aux_lemma =>
    refine CallK_intro (c_laws_toItemS a0 (by omega) k0.2) ?_
    conv => whnf
    refine WkK_intro [(0, .pl), (1, .pl), (2, .pl), (8, .fz), (9, .pl), (10, .key 10)] ?_
    conv => whnf
    repeat first
      | (refine takeK_full (by first | exact rfl) ?_; conv => whnf)
      | (refine NeedK_intro (by first | rfl | exact (pureL_map trd_pure _).clean | exact (pureL_map trd_pure _).noRef | exact (pureL_map trd_pure _).clean | exact (pureL_map trd_pure _).noRef | (simp [mkLs_len]; done)) ?_; conv => whnf)
      | (refine ErK_intro _ (pureL_map trd_pure _).clean (eraseL_mapTo (g := LineV.dat) trd_erase _) ?_; conv => whnf)
      | (refine ResK_same (pureL_map trd_pure _).noRef ?_; conv => whnf)
      | (refine NoRefK_intro (pureL_map trd_pure _).noRef ?_; conv => whnf)
    as_aux_lemma =>
      refine CallK_intro (c_laws_toBillLineST a1 (by omega) k1.2) ?_
      conv => whnf
      repeat first
        | (refine takeK_full (by first | exact rfl) ?_; conv => whnf)
        | (refine NeedK_intro (by first | rfl | exact (pureL_map trd_pure _).clean | exact (pureL_map trd_pure _).noRef | exact (pureL_map trd_pure _).clean | exact (pureL_map trd_pure _).noRef | (simp [mkLs_len]; done)) ?_; conv => whnf)
        | (refine ErK_intro _ (pureL_map trd_pure _).clean (eraseL_mapTo (g := LineV.dat) trd_erase _) ?_; conv => whnf)
        | (refine ResK_same (pureL_map trd_pure _).noRef ?_; conv => whnf)
        | (refine NoRefK_intro (pureL_map trd_pure _).noRef ?_; conv => whnf)
      refine WkK_intro [(0, .pl), (1, .pl), (2, .pl), (8, .fz), (9, .pl), (10, .key 10), (11, .tree 11)] ?_
      conv => whnf
      repeat first
        | (refine takeK_full (by first | exact rfl) ?_; conv => whnf)
        | (refine NeedK_intro (by first | rfl | exact (pureL_map trd_pure _).clean | exact (pureL_map trd_pure _).noRef | exact (pureL_map trd_pure _).clean | exact (pureL_map trd_pure _).noRef | (simp [mkLs_len]; done)) ?_; conv => whnf)
        | (refine ErK_intro _ (pureL_map trd_pure _).clean (eraseL_mapTo (g := LineV.dat) trd_erase _) ?_; conv => whnf)
        | (refine ResK_same (pureL_map trd_pure _).noRef ?_; conv => whnf)
        | (refine NoRefK_intro (pureL_map trd_pure _).noRef ?_; conv => whnf)
      as_aux_lemma =>
        refine CallK_intro (c_laws_toChangeS a2 (by omega) k2.2) ?_
        conv => whnf
        refine WkK_intro [(0, .pl), (1, .pl), (2, .pl), (8, .fz), (9, .pl), (10, .key 10), (11, .tree 11), (12, .key 12)] ?_
        conv => whnf
        repeat first
          | (refine takeK_full (by first | exact rfl) ?_; conv => whnf)
          | (refine NeedK_intro (by first | rfl | exact (pureL_map trd_pure _).clean | exact (pureL_map trd_pure _).noRef | exact (pureL_map trd_pure _).clean | exact (pureL_map trd_pure _).noRef | (simp [mkLs_len]; done)) ?_; conv => whnf)
          | (refine ErK_intro _ (pureL_map trd_pure _).clean (eraseL_mapTo (g := LineV.dat) trd_erase _) ?_; conv => whnf)
          | (refine ResK_same (pureL_map trd_pure _).noRef ?_; conv => whnf)
          | (refine NoRefK_intro (pureL_map trd_pure _).noRef ?_; conv => whnf)
        as_aux_lemma =>
          repeat first
            | (refine takeK_full (by first | exact rfl) ?_; conv => whnf)
            | (refine NeedK_intro (by first | rfl | exact (pureL_map trd_pure _).clean | exact (pureL_map trd_pure _).noRef | exact (pureL_map trd_pure _).clean | exact (pureL_map trd_pure _).noRef | (simp [mkLs_len]; done)) ?_; conv => whnf)
            | (refine ErK_intro _ (pureL_map trd_pure _).clean (eraseL_mapTo (g := LineV.dat) trd_erase _) ?_; conv => whnf)
            | (refine ResK_same (pureL_map trd_pure _).noRef ?_; conv => whnf)
            | (refine NoRefK_intro (pureL_map trd_pure _).noRef ?_; conv => whnf)
          refine CallK_intro (c_impl_ApplyChangesT a0 k0 a1 k1 a2 k2) ?_
          conv => whnf
          refine NeedK_intro (pureL_map trd_pure _).clean ?_
          conv => whnf
          refine WkK_intro [(0, .pl), (1, .pl), (2, .pl), (8, .fz), (9, .pl), (10, .key 10), (11, .tree 11), (12, .key 12), (13, .tree 13), (14, .pl)] ?_
          conv => whnf
          repeat first
            | (refine takeK_full (by first | exact rfl) ?_; conv => whnf)
            | (refine NeedK_intro (by first | rfl | exact (pureL_map trd_pure _).clean | exact (pureL_map trd_pure _).noRef | exact (pureL_map trd_pure _).clean | exact (pureL_map trd_pure _).noRef | (simp [mkLs_len]; done)) ?_; conv => whnf)
            | (refine ErK_intro _ (pureL_map trd_pure _).clean (eraseL_mapTo (g := LineV.dat) trd_erase _) ?_; conv => whnf)
            | (refine ResK_same (pureL_map trd_pure _).noRef ?_; conv => whnf)
            | (refine NoRefK_intro (pureL_map trd_pure _).noRef ?_; conv => whnf)
          as_aux_lemma =>
            repeat first
              | (refine takeK_full (by first | exact rfl) ?_; conv => whnf)
              | (refine NeedK_intro (by first | rfl | exact (pureL_map trd_pure _).clean | exact (pureL_map trd_pure _).noRef | exact (pureL_map trd_pure _).clean | exact (pureL_map trd_pure _).noRef | (simp [mkLs_len]; done)) ?_; conv => whnf)
              | (refine ErK_intro _ (pureL_map trd_pure _).clean (eraseL_mapTo (g := LineV.dat) trd_erase _) ?_; conv => whnf)
              | (refine ResK_same (pureL_map trd_pure _).noRef ?_; conv => whnf)
              | (refine NoRefK_intro (pureL_map trd_pure _).noRef ?_; conv => whnf)
            refine CallK_tr (c_laws_eqBillLineS _ _ hr hr) (fun _ => ?_) (fun h => absurd rfl h)
            conv => whnf
            refine brNBEq (fun _ => ?_) (fun h => absurd rfl h)
            conv => whnf
            refine CallK_intro (c_laws_toItemS a0 (by omega) k0.2) ?_
            conv => whnf
            repeat first
              | (refine takeK_full (by first | exact rfl) ?_; conv => whnf)
              | (refine NeedK_intro (by first | rfl | exact (pureL_map trd_pure _).clean | exact (pureL_map trd_pure _).noRef | exact (pureL_map trd_pure _).clean | exact (pureL_map trd_pure _).noRef | (simp [mkLs_len]; done)) ?_; conv => whnf)
              | (refine ErK_intro _ (pureL_map trd_pure _).clean (eraseL_mapTo (g := LineV.dat) trd_erase _) ?_; conv => whnf)
              | (refine ResK_same (pureL_map trd_pure _).noRef ?_; conv => whnf)
              | (refine NoRefK_intro (pureL_map trd_pure _).noRef ?_; conv => whnf)
            refine CallK_tr (c_laws_eqItemS _ _ k0 k0) (fun _ => ?_) (fun h => absurd rfl h)
            conv => whnf
            refine CallK_intro (c_laws_toBillLineS a1 (by omega) k1.2) ?_
            conv => whnf
            repeat first
              | (refine takeK_full (by first | exact rfl) ?_; conv => whnf)
              | (refine NeedK_intro (by first | rfl | exact (pureL_map trd_pure _).clean | exact (pureL_map trd_pure _).noRef | exact (pureL_map trd_pure _).clean | exact (pureL_map trd_pure _).noRef | (simp [mkLs_len]; done)) ?_; conv => whnf)
              | (refine ErK_intro _ (pureL_map trd_pure _).clean (eraseL_mapTo (g := LineV.dat) trd_erase _) ?_; conv => whnf)
              | (refine ResK_same (pureL_map trd_pure _).noRef ?_; conv => whnf)
              | (refine NoRefK_intro (pureL_map trd_pure _).noRef ?_; conv => whnf)
            refine CallK_tr (c_laws_eqBillLineS _ _ k1 k1) (fun _ => ?_) (fun h => absurd rfl h)
            conv => whnf
            refine CallK_intro (c_laws_toChangeS a2 (by omega) k2.2) ?_
            conv => whnf
            repeat first
              | (refine takeK_full (by first | exact rfl) ?_; conv => whnf)
              | (refine NeedK_intro (by first | rfl | exact (pureL_map trd_pure _).clean | exact (pureL_map trd_pure _).noRef | exact (pureL_map trd_pure _).clean | exact (pureL_map trd_pure _).noRef | (simp [mkLs_len]; done)) ?_; conv => whnf)
              | (refine ErK_intro _ (pureL_map trd_pure _).clean (eraseL_mapTo (g := LineV.dat) trd_erase _) ?_; conv => whnf)
              | (refine ResK_same (pureL_map trd_pure _).noRef ?_; conv => whnf)
              | (refine NoRefK_intro (pureL_map trd_pure _).noRef ?_; conv => whnf)
            refine CallK_tr (c_laws_eqChangeS _ _ k2 k2) (fun _ => ?_) (fun h => absurd rfl h)
            conv => whnf
            repeat first
              | (refine takeK_full (by first | exact rfl) ?_; conv => whnf)
              | (refine NeedK_intro (by first | rfl | exact (pureL_map trd_pure _).clean | exact (pureL_map trd_pure _).noRef | exact (pureL_map trd_pure _).clean | exact (pureL_map trd_pure _).noRef | (simp [mkLs_len]; done)) ?_; conv => whnf)
              | (refine ErK_intro _ (pureL_map trd_pure _).clean (eraseL_mapTo (g := LineV.dat) trd_erase _) ?_; conv => whnf)
              | (refine ResK_same (pureL_map trd_pure _).noRef ?_; conv => whnf)
              | (refine NoRefK_intro (pureL_map trd_pure _).noRef ?_; conv => whnf)
            refine LCallK_intro (c_laws_markItemS _ (by omega) _ (by omega) (by omega)) ?_
            conv => whnf
            refine WkK_intro [(0, .pl), (1, .pl), (2, .pl), (8, .fz), (9, .pl), (11, .tree 11), (12, .key 12), (13, .tree 13), (14, .pl), (15, .pl)] ?_
            conv => whnf
            repeat first
              | (refine takeK_full (by first | exact rfl) ?_; conv => whnf)
              | (refine NeedK_intro (by first | rfl | exact (pureL_map trd_pure _).clean | exact (pureL_map trd_pure _).noRef | exact (pureL_map trd_pure _).clean | exact (pureL_map trd_pure _).noRef | (simp [mkLs_len]; done)) ?_; conv => whnf)
              | (refine ErK_intro _ (pureL_map trd_pure _).clean (eraseL_mapTo (g := LineV.dat) trd_erase _) ?_; conv => whnf)
              | (refine ResK_same (pureL_map trd_pure _).noRef ?_; conv => whnf)
              | (refine NoRefK_intro (pureL_map trd_pure _).noRef ?_; conv => whnf)
            as_aux_lemma =>
              repeat first
                | (refine takeK_full (by first | exact rfl) ?_; conv => whnf)
                | (refine NeedK_intro (by first | rfl | exact (pureL_map trd_pure _).clean | exact (pureL_map trd_pure _).noRef | exact (pureL_map trd_pure _).clean | exact (pureL_map trd_pure _).noRef | (simp [mkLs_len]; done)) ?_; conv => whnf)
                | (refine ErK_intro _ (pureL_map trd_pure _).clean (eraseL_mapTo (g := LineV.dat) trd_erase _) ?_; conv => whnf)
                | (refine ResK_same (pureL_map trd_pure _).noRef ?_; conv => whnf)
                | (refine NoRefK_intro (pureL_map trd_pure _).noRef ?_; conv => whnf)
              refine TCallK_intro (c_laws_markBillLineS _ (by omega) _ (by omega) (by omega)) ?_
              conv => whnf
              refine WkK_intro [(0, .pl), (1, .pl), (2, .pl), (8, .fz), (9, .pl), (12, .key 12), (13, .tree 13), (14, .pl), (15, .pl)] ?_
              conv => whnf
              repeat first
                | (refine takeK_full (by first | exact rfl) ?_; conv => whnf)
                | (refine NeedK_intro (by first | rfl | exact (pureL_map trd_pure _).clean | exact (pureL_map trd_pure _).noRef | exact (pureL_map trd_pure _).clean | exact (pureL_map trd_pure _).noRef | (simp [mkLs_len]; done)) ?_; conv => whnf)
                | (refine ErK_intro _ (pureL_map trd_pure _).clean (eraseL_mapTo (g := LineV.dat) trd_erase _) ?_; conv => whnf)
                | (refine ResK_same (pureL_map trd_pure _).noRef ?_; conv => whnf)
                | (refine NoRefK_intro (pureL_map trd_pure _).noRef ?_; conv => whnf)
              as_aux_lemma =>
                repeat first
                  | (refine takeK_full (by first | exact rfl) ?_; conv => whnf)
                  | (refine NeedK_intro (by first | rfl | exact (pureL_map trd_pure _).clean | exact (pureL_map trd_pure _).noRef | exact (pureL_map trd_pure _).clean | exact (pureL_map trd_pure _).noRef | (simp [mkLs_len]; done)) ?_; conv => whnf)
                  | (refine ErK_intro _ (pureL_map trd_pure _).clean (eraseL_mapTo (g := LineV.dat) trd_erase _) ?_; conv => whnf)
                  | (refine ResK_same (pureL_map trd_pure _).noRef ?_; conv => whnf)
                  | (refine NoRefK_intro (pureL_map trd_pure _).noRef ?_; conv => whnf)
                refine LCallK_intro (c_laws_markChangeS _ (by omega) _ (by omega) (by omega)) ?_
                conv => whnf
                refine WkK_intro [(0, .pl), (1, .pl), (2, .pl), (8, .fz), (9, .pl), (13, .tree 13), (14, .pl), (15, .pl)] ?_
                conv => whnf
                repeat first
                  | (refine takeK_full (by first | exact rfl) ?_; conv => whnf)
                  | (refine NeedK_intro (by first | rfl | exact (pureL_map trd_pure _).clean | exact (pureL_map trd_pure _).noRef | exact (pureL_map trd_pure _).clean | exact (pureL_map trd_pure _).noRef | (simp [mkLs_len]; done)) ?_; conv => whnf)
                  | (refine ErK_intro _ (pureL_map trd_pure _).clean (eraseL_mapTo (g := LineV.dat) trd_erase _) ?_; conv => whnf)
                  | (refine ResK_same (pureL_map trd_pure _).noRef ?_; conv => whnf)
                  | (refine NoRefK_intro (pureL_map trd_pure _).noRef ?_; conv => whnf)
                as_aux_lemma =>
                  refine brLt (fun h => by exfalso; omega) (fun _ => ?_)
                  conv => whnf
                  repeat first
                    | (refine takeK_full (by first | exact rfl) ?_; conv => whnf)
                    | (refine NeedK_intro (by first | rfl | exact (pureL_map trd_pure _).clean | exact (pureL_map trd_pure _).noRef | exact (pureL_map trd_pure _).clean | exact (pureL_map trd_pure _).noRef | (simp [mkLs_len]; done)) ?_; conv => whnf)
                    | (refine ErK_intro _ (pureL_map trd_pure _).clean (eraseL_mapTo (g := LineV.dat) trd_erase _) ?_; conv => whnf)
                    | (refine ResK_same (pureL_map trd_pure _).noRef ?_; conv => whnf)
                    | (refine NoRefK_intro (pureL_map trd_pure _).noRef ?_; conv => whnf)
                  refine CallK_tr (c_laws_eqBillLineS _ _ hr hr) (fun _ => ?_) (fun h => absurd rfl h)
                  conv => whnf
                  refine brNBEq (fun _ => ?_) (fun h => absurd rfl h)
                  conv => whnf
                  repeat first
                    | (refine takeK_full (by first | exact rfl) ?_; conv => whnf)
                    | (refine NeedK_intro (by first | rfl | exact (pureL_map trd_pure _).clean | exact (pureL_map trd_pure _).noRef | exact (pureL_map trd_pure _).clean | exact (pureL_map trd_pure _).noRef | (simp [mkLs_len]; done)) ?_; conv => whnf)
                    | (refine ErK_intro _ (pureL_map trd_pure _).clean (eraseL_mapTo (g := LineV.dat) trd_erase _) ?_; conv => whnf)
                    | (refine ResK_same (pureL_map trd_pure _).noRef ?_; conv => whnf)
                    | (refine NoRefK_intro (pureL_map trd_pure _).noRef ?_; conv => whnf)
                  refine TCallK_intro (c_laws_markBillLineS _ (by omega) _ (by omega) (by omega)) ?_
                  conv => whnf
                  refine WkK_intro [(0, .pl), (1, .pl), (2, .pl), (8, .fz), (9, .pl), (13, .tree 13), (16, .pl)] ?_
                  conv => whnf
                  repeat first
                    | (refine takeK_full (by first | exact rfl) ?_; conv => whnf)
                    | (refine NeedK_intro (by first | rfl | exact (pureL_map trd_pure _).clean | exact (pureL_map trd_pure _).noRef | exact (pureL_map trd_pure _).clean | exact (pureL_map trd_pure _).noRef | (simp [mkLs_len]; done)) ?_; conv => whnf)
                    | (refine ErK_intro _ (pureL_map trd_pure _).clean (eraseL_mapTo (g := LineV.dat) trd_erase _) ?_; conv => whnf)
                    | (refine ResK_same (pureL_map trd_pure _).noRef ?_; conv => whnf)
                    | (refine NoRefK_intro (pureL_map trd_pure _).noRef ?_; conv => whnf)
                  as_aux_lemma =>
                    repeat first
                      | (refine takeK_full (by first | exact rfl) ?_; conv => whnf)
                      | (refine NeedK_intro (by first | rfl | exact (pureL_map trd_pure _).clean | exact (pureL_map trd_pure _).noRef | exact (pureL_map trd_pure _).clean | exact (pureL_map trd_pure _).noRef | (simp [mkLs_len]; done)) ?_; conv => whnf)
                      | (refine ErK_intro _ (pureL_map trd_pure _).clean (eraseL_mapTo (g := LineV.dat) trd_erase _) ?_; conv => whnf)
                      | (refine ResK_same (pureL_map trd_pure _).noRef ?_; conv => whnf)
                      | (refine NoRefK_intro (pureL_map trd_pure _).noRef ?_; conv => whnf)
                    refine CallK_intro (c_laws_heldBillLineS _ (by omega) _ (by omega) (by omega)) ?_
                    conv => whnf
                    refine WkK_intro [(0, .pl), (1, .pl), (2, .pl), (8, .fz), (9, .pl), (13, .tree 13), (16, .pl), (17, .pl)] ?_
                    conv => whnf
                    repeat first
                      | (refine takeK_full (by first | exact rfl) ?_; conv => whnf)
                      | (refine NeedK_intro (by first | rfl | exact (pureL_map trd_pure _).clean | exact (pureL_map trd_pure _).noRef | exact (pureL_map trd_pure _).clean | exact (pureL_map trd_pure _).noRef | (simp [mkLs_len]; done)) ?_; conv => whnf)
                      | (refine ErK_intro _ (pureL_map trd_pure _).clean (eraseL_mapTo (g := LineV.dat) trd_erase _) ?_; conv => whnf)
                      | (refine ResK_same (pureL_map trd_pure _).noRef ?_; conv => whnf)
                      | (refine NoRefK_intro (pureL_map trd_pure _).noRef ?_; conv => whnf)
                    as_aux_lemma =>
                      refine brLt (fun h => by exfalso; omega) (fun _ => ?_)
                      conv => whnf
                      refine brNEq (fun _ => ?_) (fun h => absurd rfl h)
                      conv => whnf
                      refine CallK_intro (c_laws_toItemS a0 (by omega) k0.2) ?_
                      conv => whnf
                      refine CallK_intro (c_laws_toBillLineS a1 (by omega) k1.2) ?_
                      conv => whnf
                      refine CallK_intro (c_laws_toChangeS a2 (by omega) k2.2) ?_
                      conv => whnf
                      repeat first
                        | (refine takeK_full (by first | exact rfl) ?_; conv => whnf)
                        | (refine NeedK_intro (by first | rfl | exact (pureL_map trd_pure _).clean | exact (pureL_map trd_pure _).noRef | exact (pureL_map trd_pure _).clean | exact (pureL_map trd_pure _).noRef | (simp [mkLs_len]; done)) ?_; conv => whnf)
                        | (refine ErK_intro _ (pureL_map trd_pure _).clean (eraseL_mapTo (g := LineV.dat) trd_erase _) ?_; conv => whnf)
                        | (refine ResK_same (pureL_map trd_pure _).noRef ?_; conv => whnf)
                        | (refine NoRefK_intro (pureL_map trd_pure _).noRef ?_; conv => whnf)
                      refine CallK_intro (c_impl_ApplyChangesT a0 k0 a1 k1 a2 k2) ?_
                      conv => whnf
                      refine NeedK_intro (pureL_map trd_pure _).clean ?_
                      conv => whnf
                      refine WkK_intro [(8, .fz), (9, .pl), (13, .tree 13), (16, .pl), (17, .pl), (18, .tree 18), (19, .pl)] ?_
                      conv => whnf
                      repeat first
                        | (refine takeK_full (by first | exact rfl) ?_; conv => whnf)
                        | (refine NeedK_intro (by first | rfl | exact (pureL_map trd_pure _).clean | exact (pureL_map trd_pure _).noRef | exact (pureL_map trd_pure _).clean | exact (pureL_map trd_pure _).noRef | (simp [mkLs_len]; done)) ?_; conv => whnf)
                        | (refine ErK_intro _ (pureL_map trd_pure _).clean (eraseL_mapTo (g := LineV.dat) trd_erase _) ?_; conv => whnf)
                        | (refine ResK_same (pureL_map trd_pure _).noRef ?_; conv => whnf)
                        | (refine NoRefK_intro (pureL_map trd_pure _).noRef ?_; conv => whnf)
                      as_aux_lemma =>
                        repeat first
                          | (refine takeK_full (by first | exact rfl) ?_; conv => whnf)
                          | (refine NeedK_intro (by first | rfl | exact (pureL_map trd_pure _).clean | exact (pureL_map trd_pure _).noRef | exact (pureL_map trd_pure _).clean | exact (pureL_map trd_pure _).noRef | (simp [mkLs_len]; done)) ?_; conv => whnf)
                          | (refine ErK_intro _ (pureL_map trd_pure _).clean (eraseL_mapTo (g := LineV.dat) trd_erase _) ?_; conv => whnf)
                          | (refine ResK_same (pureL_map trd_pure _).noRef ?_; conv => whnf)
                          | (refine NoRefK_intro (pureL_map trd_pure _).noRef ?_; conv => whnf)
                        refine CallK_tr (c_laws_eqBillLineS _ _ hr hr) (fun _ => ?_) (fun h => absurd rfl h)
                        conv => whnf
                        refine brNBEq (fun _ => ?_) (fun h => absurd rfl h)
                        conv => whnf
                        repeat first
                          | (refine takeK_full (by first | exact rfl) ?_; conv => whnf)
                          | (refine NeedK_intro (by first | rfl | exact (pureL_map trd_pure _).clean | exact (pureL_map trd_pure _).noRef | exact (pureL_map trd_pure _).clean | exact (pureL_map trd_pure _).noRef | (simp [mkLs_len]; done)) ?_; conv => whnf)
                          | (refine ErK_intro _ (pureL_map trd_pure _).clean (eraseL_mapTo (g := LineV.dat) trd_erase _) ?_; conv => whnf)
                          | (refine ResK_same (pureL_map trd_pure _).noRef ?_; conv => whnf)
                          | (refine NoRefK_intro (pureL_map trd_pure _).noRef ?_; conv => whnf)
                        refine CallK_intro (c_laws_heldBillLineS _ (by omega) _ (by omega) (by omega)) ?_
                        conv => whnf
                        refine WkK_intro [(16, .pl), (17, .pl)] ?_
                        conv => whnf
                        repeat first
                          | (refine takeK_full (by first | exact rfl) ?_; conv => whnf)
                          | (refine NeedK_intro (by first | rfl | exact (pureL_map trd_pure _).clean | exact (pureL_map trd_pure _).noRef | exact (pureL_map trd_pure _).clean | exact (pureL_map trd_pure _).noRef | (simp [mkLs_len]; done)) ?_; conv => whnf)
                          | (refine ErK_intro _ (pureL_map trd_pure _).clean (eraseL_mapTo (g := LineV.dat) trd_erase _) ?_; conv => whnf)
                          | (refine ResK_same (pureL_map trd_pure _).noRef ?_; conv => whnf)
                          | (refine NoRefK_intro (pureL_map trd_pure _).noRef ?_; conv => whnf)
                        as_aux_lemma =>
                          refine brLt (fun h => by exfalso; omega) (fun _ => ?_)
                          conv => whnf
                          refine brNEq (fun _ => ?_) (fun h => absurd rfl h)
                          conv => whnf


theorem law_FnExactApplyChanges : ∀ xs, HasTys [.sl ItemV.ty, .sl LineV.ty, .sl ChangeV.ty] xs → Contract Try.prog 8 (xs.map .d) (.one (.d (.sc (.bool true)))) := by
  intro xs h
  obtain ⟨d0, r0, rfl, h0, g0⟩ := HasTys_cons h
  obtain ⟨a0, rfl, k0⟩ := sl_dec (fun _ => ItemV.dec) h0
  have k0 : okL ItemV.ok a0 := k0
  obtain ⟨d1, r1, rfl, h1, g1⟩ := HasTys_cons g0
  obtain ⟨a1, rfl, k1⟩ := sl_dec (fun _ => LineV.dec) h1
  have k1 : okL LineV.ok a1 := k1
  obtain ⟨d2, r2, rfl, h2, g2⟩ := HasTys_cons g1
  obtain ⟨a2, rfl, k2⟩ := sl_dec (fun _ => ChangeV.dec) h2
  have k2 : okL ChangeV.ok a2 := k2
  cases HasTys_nil g2
  clear h0 h1 h2
  exact law0_FnExactApplyChanges a0 k0 a1 k1 a2 k2
end Go.DL
namespace Go.Proofs.Ytamhoddnnifbiaa
open Go.ChangeShapes Go.WideShapes Go.ChangeAt Go.RowKit
theorem Try.cpD : Try.checked.prog = Try.prog := by kernel_rfl
theorem Try.ownD : ownKnob Try.checked.prog.godebug = none := by kernel_rfl
theorem Try.laidOutD : laidOutB Try.checked.prog = true := by kernel_rfl
theorem Try.lawD : ∀ xs, DL.HasTys [.sl DL.ItemV.ty, .sl DL.LineV.ty, .sl DL.ChangeV.ty] xs → DL.Contract Try.checked.prog 8 (xs.map .d) (.one (.d (.sc (.bool true)))) := by rw [Try.cpD]; exact DL.law_FnExactApplyChanges
theorem fnExactApplyChanges_lifted (os : Os) (started : os.Started) (H : Type) (enc : TypeId × Value → H) :
    ReturnsInHanded {} Try.checked os 8 .any (Rows.fnExactApplyChangesSpec.pre6 enc Try.checked.prog Try.f8 Rows.fnExactApplyChangesRow.domain false) (Rows.fnExactApplyChangesSpec.post enc Try.checked.prog Try.f8 false true false false) := by
  refine returnsInHanded_of_change (C := Try.checked) Try.ownD started (by kernel_rfl) Try.func8
    (ChangeSpec.witness6 (enc := enc) (C := Try.checked) false ⟨#[], #[.slice none 0 0, .slice none 0 0, .slice none 0 0], []⟩ 8 (by kernel_rfl) (by kernel_rfl) (by kernel_rfl) (by kernel_rfl)) ?_
  intro W base args ds gs before hval0 hW0 _ _
  exact DL.law_calls (P := Try.checked.prog) (fn := Try.f8) (s := Rows.fnExactApplyChangesSpec) (ts := [39, 40, 71]) (tb := 4) (tys := [.sl DL.ItemV.ty, .sl DL.LineV.ty, .sl DL.ChangeV.ty]) (by kernel_rfl) (by kernel_rfl) (by kernel_rfl) rfl
    (fun ds h => match ds, h with | [d0, d1, d2], _ => rfl) Try.laidOutD (by kernel_rfl) Try.lawD W base args ds gs before @hval0 hW0
/-- The law returns true, whatever comes in. -/
theorem FnExactApplyChanges_holds : Rows.FnExactApplyChangesSaid :=
  OpenClaim.holds_of_wide 8 Try.f8 rfl rfl rfl rfl rfl rfl rfl ⟨rfl, rfl, rfl, rfl, rfl⟩ rfl rfl rfl rfl rfl (by kernel_rfl) Try.func8 (by kernel_rfl)
    (of_decide_eq_true (by kernel_rfl)) (by unfold Func.isWrapper; first | (rw [if_pos (by decide +kernel)]; kernel_rfl) | (rw [if_neg (by decide +kernel)]; exact ⟨rfl, rfl⟩))
    (fun os started H enc _ => fnExactApplyChanges_lifted os started H enc)
end Go.Proofs.Ytamhoddnnifbiaa
namespace Go.DL

end Go.DL
