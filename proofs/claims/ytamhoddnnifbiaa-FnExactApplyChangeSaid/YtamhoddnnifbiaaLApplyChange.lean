/- The statement FnExactApplyChangeSaid: the law returns true for every input that can be read as data, and each argument reads afterwards as it read before. No conditions. -/
import Derived.Test.YtamhoddnnifbiaaM
import Derived.Test.YtamhoddnnifbiaaS2
import Derived.Test.YtamhoddnnifbiaaUF
import Derived.ProofKit
namespace Go.DL
set_option maxRecDepth 100000
set_option maxHeartbeats 2000000
set_option linter.unusedSimpArgs false
set_option linter.unusedVariables false
open Go.RowKit Go.Proofs Go.Proofs.Ytamhoddnnifbiaa

set_option maxHeartbeats 16000000 in
theorem law0_FnExactApplyChange (a0 : List ItemV) (k0 : okL ItemV.ok a0) (a1 : List LineV) (k1 : okL LineV.ok a1) (a2 : ChangeV) (k2 : ChangeV.ok a2) : Contract Try.prog 7 [.d (lD ItemV.dat a0), .d (lD LineV.dat a1), .d a2.dat] (.one (.d (.sc (.bool true)))) := by
  have lw0 := wtL_len (wt := ItemV.wt) (l := a0)
  have lw1 := wtL_len (wt := LineV.wt) (l := a1)
  obtain ⟨hr, hrl⟩ := appV_ok a0 k0 a1 k1 a2 k2
  have hmk := mkLk_bnd a1 (1 + 8 * (a0.length : Int))
  have hmr := mkLk_bnd (appV a0 a1 a2) 1
  refine contract_byR [100000 + 30, 100000 + 29, 600000 + 40, 600000 + 26, 600000 + 32, 600000 + 30, 600000 + 23, 10000000 + 38, 10000000 + 41, 10000000 + 72, 10000000 + 109, 1100000 + 11, 1100000 + 12, 1100000 + 13, 1100000 + 14, 1100000 + 22, 1100000 + 23, 1100000 + 27, 1100000 + 29, 1100000 + 34, 1100000 + 38] hma hTa Try.func7 (by kernel_rfl) (by kernel_rfl) ?_
  conv => whnf
  refine CallK_sz (c_laws_szItemS _ _ (by omega) (by omega) (by assumption)) (fun hc => ?_) (fun hc => ?_) <;> conv => whnf
  · refine brLt (fun h => ?_) (fun h => by exfalso; omega)
    conv => whnf
  refine brLt (fun h => by exfalso; omega) (fun _ => ?_)
  conv => whnf
  refine CallK_sz (c_laws_szBillLineS _ _ (by omega) (by omega) (by assumption)) (fun hc => ?_) (fun hc => ?_) <;> conv => whnf
  · refine brLt (fun h => ?_) (fun h => by exfalso; omega)
    conv => whnf
  refine brLt (fun h => by exfalso; omega) (fun _ => ?_)
  conv => whnf
  refine CallK_sz (c_laws_szChange _ _ (by omega) (by omega) (by assumption)) (fun hc => ?_) (fun hc => ?_) <;> conv => whnf
  · refine brLt (fun h => ?_) (fun h => by exfalso; omega)
    conv => whnf
  refine brLt (fun h => by exfalso; omega) (fun _ => ?_)
  conv => whnf
  refine CallK_intro (c_laws_toItemS a0 (by omega) k0.2) ?_
  conv => whnf
  refine CallK_intro (c_laws_toBillLineS a1 (by omega) k1.2) ?_
  conv => whnf
  refine CallK_intro (c_laws_toChange a2 k2) ?_
  conv => whnf
  repeat first
    | (refine takeK_full (by first | exact rfl) ?_; conv => whnf)
    | (refine NeedK_intro (by first | rfl | exact (pureL_map trd_pure _).clean | exact (pureL_map trd_pure _).noRef | exact (pureL_map trd_pure _).clean | exact (pureL_map trd_pure _).noRef | (simp [mkLs_len]; done)) ?_; conv => whnf)
    | (refine ErK_intro _ (pureL_map trd_pure _).clean (eraseL_mapTo (g := LineV.dat) trd_erase _) ?_; conv => whnf)
    | (refine ResK_same (pureL_map trd_pure _).noRef ?_; conv => whnf)
    | (refine NoRefK_intro (pureL_map trd_pure _).noRef ?_; conv => whnf)
  refine CallK_intro (c_spec_ApplyChangeV a0 k0 a1 k1 a2 k2) ?_
  conv => whnf
  refine WkK_intro [(0, .pl), (1, .pl), (5, .key 5), (8, .fz), (9, .pl)] ?_
  conv => whnf
  repeat first
    | (refine takeK_full (by first | exact rfl) ?_; conv => whnf)
    | (refine NeedK_intro (by first | rfl | exact (pureL_map trd_pure _).clean | exact (pureL_map trd_pure _).noRef | exact (pureL_map trd_pure _).clean | exact (pureL_map trd_pure _).noRef | (simp [mkLs_len]; done)) ?_; conv => whnf)
    | (refine ErK_intro _ (pureL_map trd_pure _).clean (eraseL_mapTo (g := LineV.dat) trd_erase _) ?_; conv => whnf)
    | (refine ResK_same (pureL_map trd_pure _).noRef ?_; conv => whnf)
    | (refine NoRefK_intro (pureL_map trd_pure _).noRef ?_; conv => whnf)
  as_aux_lemma =>
    refine CallK_intro (c_laws_toItemS a0 (by omega) k0.2) ?_
    conv => whnf
    refine WkK_intro [(0, .pl), (1, .pl), (5, .key 5), (8, .fz), (9, .pl), (10, .key 10)] ?_
    conv => whnf
    repeat first
      | (refine takeK_full (by first | exact rfl) ?_; conv => whnf)
      | (refine NeedK_intro (by first | rfl | exact (pureL_map trd_pure _).clean | exact (pureL_map trd_pure _).noRef | exact (pureL_map trd_pure _).clean | exact (pureL_map trd_pure _).noRef | (simp [mkLs_len]; done)) ?_; conv => whnf)
      | (refine ErK_intro _ (pureL_map trd_pure _).clean (eraseL_mapTo (g := LineV.dat) trd_erase _) ?_; conv => whnf)
      | (refine ResK_same (pureL_map trd_pure _).noRef ?_; conv => whnf)
      | (refine NoRefK_intro (pureL_map trd_pure _).noRef ?_; conv => whnf)
    as_aux_lemma =>
      refine CallK_intro (c_laws_toBillLineST a1 (by omega) k1.2) ?_
      conv => whnf
      repeat first
        | (refine takeK_full (by first | exact rfl) ?_; conv => whnf)
        | (refine NeedK_intro (by first | rfl | exact (pureL_map trd_pure _).clean | exact (pureL_map trd_pure _).noRef | exact (pureL_map trd_pure _).clean | exact (pureL_map trd_pure _).noRef | (simp [mkLs_len]; done)) ?_; conv => whnf)
        | (refine ErK_intro _ (pureL_map trd_pure _).clean (eraseL_mapTo (g := LineV.dat) trd_erase _) ?_; conv => whnf)
        | (refine ResK_same (pureL_map trd_pure _).noRef ?_; conv => whnf)
        | (refine NoRefK_intro (pureL_map trd_pure _).noRef ?_; conv => whnf)
      refine WkK_intro [(0, .pl), (1, .pl), (5, .key 5), (8, .fz), (9, .pl), (10, .key 10), (11, .tree 11)] ?_
      conv => whnf
      repeat first
        | (refine takeK_full (by first | exact rfl) ?_; conv => whnf)
        | (refine NeedK_intro (by first | rfl | exact (pureL_map trd_pure _).clean | exact (pureL_map trd_pure _).noRef | exact (pureL_map trd_pure _).clean | exact (pureL_map trd_pure _).noRef | (simp [mkLs_len]; done)) ?_; conv => whnf)
        | (refine ErK_intro _ (pureL_map trd_pure _).clean (eraseL_mapTo (g := LineV.dat) trd_erase _) ?_; conv => whnf)
        | (refine ResK_same (pureL_map trd_pure _).noRef ?_; conv => whnf)
        | (refine NoRefK_intro (pureL_map trd_pure _).noRef ?_; conv => whnf)
      as_aux_lemma =>
        refine CallK_intro (c_laws_toChange a2 k2) ?_
        conv => whnf
        repeat first
          | (refine takeK_full (by first | exact rfl) ?_; conv => whnf)
          | (refine NeedK_intro (by first | rfl | exact (pureL_map trd_pure _).clean | exact (pureL_map trd_pure _).noRef | exact (pureL_map trd_pure _).clean | exact (pureL_map trd_pure _).noRef | (simp [mkLs_len]; done)) ?_; conv => whnf)
          | (refine ErK_intro _ (pureL_map trd_pure _).clean (eraseL_mapTo (g := LineV.dat) trd_erase _) ?_; conv => whnf)
          | (refine ResK_same (pureL_map trd_pure _).noRef ?_; conv => whnf)
          | (refine NoRefK_intro (pureL_map trd_pure _).noRef ?_; conv => whnf)
        refine CallK_intro (c_impl_ApplyChangeT a0 k0 a1 k1 a2 k2) ?_
        conv => whnf
        refine NeedK_intro (pureL_map trd_pure _).clean ?_
        conv => whnf
        refine WkK_intro [(0, .pl), (1, .pl), (5, .key 5), (8, .fz), (9, .pl), (10, .key 10), (11, .tree 11), (12, .tree 12), (13, .pl)] ?_
        conv => whnf
        repeat first
          | (refine takeK_full (by first | exact rfl) ?_; conv => whnf)
          | (refine NeedK_intro (by first | rfl | exact (pureL_map trd_pure _).clean | exact (pureL_map trd_pure _).noRef | exact (pureL_map trd_pure _).clean | exact (pureL_map trd_pure _).noRef | (simp [mkLs_len]; done)) ?_; conv => whnf)
          | (refine ErK_intro _ (pureL_map trd_pure _).clean (eraseL_mapTo (g := LineV.dat) trd_erase _) ?_; conv => whnf)
          | (refine ResK_same (pureL_map trd_pure _).noRef ?_; conv => whnf)
          | (refine NoRefK_intro (pureL_map trd_pure _).noRef ?_; conv => whnf)
        as_aux_lemma =>
          repeat first
            | (refine takeK_full (by first | exact rfl) ?_; conv => whnf)
            | (refine NeedK_intro (by first | rfl | exact (pureL_map trd_pure _).clean | exact (pureL_map trd_pure _).noRef | exact (pureL_map trd_pure _).clean | exact (pureL_map trd_pure _).noRef | (simp [mkLs_len]; done)) ?_; conv => whnf)
            | (refine ErK_intro _ (pureL_map trd_pure _).clean (eraseL_mapTo (g := LineV.dat) trd_erase _) ?_; conv => whnf)
            | (refine ResK_same (pureL_map trd_pure _).noRef ?_; conv => whnf)
            | (refine NoRefK_intro (pureL_map trd_pure _).noRef ?_; conv => whnf)
          refine CallK_tr (c_laws_eqBillLineS _ _ hr hr) (fun _ => ?_) (fun h => absurd rfl h)
          conv => whnf
          refine brNBEq (fun _ => ?_) (fun h => absurd rfl h)
          conv => whnf
          refine CallK_intro (c_laws_toItemS a0 (by omega) k0.2) ?_
          conv => whnf
          repeat first
            | (refine takeK_full (by first | exact rfl) ?_; conv => whnf)
            | (refine NeedK_intro (by first | rfl | exact (pureL_map trd_pure _).clean | exact (pureL_map trd_pure _).noRef | exact (pureL_map trd_pure _).clean | exact (pureL_map trd_pure _).noRef | (simp [mkLs_len]; done)) ?_; conv => whnf)
            | (refine ErK_intro _ (pureL_map trd_pure _).clean (eraseL_mapTo (g := LineV.dat) trd_erase _) ?_; conv => whnf)
            | (refine ResK_same (pureL_map trd_pure _).noRef ?_; conv => whnf)
            | (refine NoRefK_intro (pureL_map trd_pure _).noRef ?_; conv => whnf)
          refine CallK_tr (c_laws_eqItemS _ _ k0 k0) (fun _ => ?_) (fun h => absurd rfl h)
          conv => whnf
          refine CallK_intro (c_laws_toBillLineS a1 (by omega) k1.2) ?_
          conv => whnf
          repeat first
            | (refine takeK_full (by first | exact rfl) ?_; conv => whnf)
            | (refine NeedK_intro (by first | rfl | exact (pureL_map trd_pure _).clean | exact (pureL_map trd_pure _).noRef | exact (pureL_map trd_pure _).clean | exact (pureL_map trd_pure _).noRef | (simp [mkLs_len]; done)) ?_; conv => whnf)
            | (refine ErK_intro _ (pureL_map trd_pure _).clean (eraseL_mapTo (g := LineV.dat) trd_erase _) ?_; conv => whnf)
            | (refine ResK_same (pureL_map trd_pure _).noRef ?_; conv => whnf)
            | (refine NoRefK_intro (pureL_map trd_pure _).noRef ?_; conv => whnf)
          refine CallK_tr (c_laws_eqBillLineS _ _ k1 k1) (fun _ => ?_) (fun h => absurd rfl h)
          conv => whnf
          repeat first
            | (refine takeK_full (by first | exact rfl) ?_; conv => whnf)
            | (refine NeedK_intro (by first | rfl | exact (pureL_map trd_pure _).clean | exact (pureL_map trd_pure _).noRef | exact (pureL_map trd_pure _).clean | exact (pureL_map trd_pure _).noRef | (simp [mkLs_len]; done)) ?_; conv => whnf)
            | (refine ErK_intro _ (pureL_map trd_pure _).clean (eraseL_mapTo (g := LineV.dat) trd_erase _) ?_; conv => whnf)
            | (refine ResK_same (pureL_map trd_pure _).noRef ?_; conv => whnf)
            | (refine NoRefK_intro (pureL_map trd_pure _).noRef ?_; conv => whnf)
          refine LCallK_intro (c_laws_markItemS _ (by omega) _ (by omega) (by omega)) ?_
          conv => whnf
          refine WkK_intro [(0, .pl), (1, .pl), (5, .key 5), (8, .fz), (9, .pl), (11, .tree 11), (12, .tree 12), (13, .pl), (14, .pl)] ?_
          conv => whnf
          repeat first
            | (refine takeK_full (by first | exact rfl) ?_; conv => whnf)
            | (refine NeedK_intro (by first | rfl | exact (pureL_map trd_pure _).clean | exact (pureL_map trd_pure _).noRef | exact (pureL_map trd_pure _).clean | exact (pureL_map trd_pure _).noRef | (simp [mkLs_len]; done)) ?_; conv => whnf)
            | (refine ErK_intro _ (pureL_map trd_pure _).clean (eraseL_mapTo (g := LineV.dat) trd_erase _) ?_; conv => whnf)
            | (refine ResK_same (pureL_map trd_pure _).noRef ?_; conv => whnf)
            | (refine NoRefK_intro (pureL_map trd_pure _).noRef ?_; conv => whnf)
          as_aux_lemma =>
            repeat first
              | (refine takeK_full (by first | exact rfl) ?_; conv => whnf)
              | (refine NeedK_intro (by first | rfl | exact (pureL_map trd_pure _).clean | exact (pureL_map trd_pure _).noRef | exact (pureL_map trd_pure _).clean | exact (pureL_map trd_pure _).noRef | (simp [mkLs_len]; done)) ?_; conv => whnf)
              | (refine ErK_intro _ (pureL_map trd_pure _).clean (eraseL_mapTo (g := LineV.dat) trd_erase _) ?_; conv => whnf)
              | (refine ResK_same (pureL_map trd_pure _).noRef ?_; conv => whnf)
              | (refine NoRefK_intro (pureL_map trd_pure _).noRef ?_; conv => whnf)
            refine TCallK_intro (c_laws_markBillLineS _ (by omega) _ (by omega) (by omega)) ?_
            conv => whnf
            refine WkK_intro [(0, .pl), (1, .pl), (5, .key 5), (8, .fz), (9, .pl), (12, .tree 12), (13, .pl), (14, .pl)] ?_
            conv => whnf
            repeat first
              | (refine takeK_full (by first | exact rfl) ?_; conv => whnf)
              | (refine NeedK_intro (by first | rfl | exact (pureL_map trd_pure _).clean | exact (pureL_map trd_pure _).noRef | exact (pureL_map trd_pure _).clean | exact (pureL_map trd_pure _).noRef | (simp [mkLs_len]; done)) ?_; conv => whnf)
              | (refine ErK_intro _ (pureL_map trd_pure _).clean (eraseL_mapTo (g := LineV.dat) trd_erase _) ?_; conv => whnf)
              | (refine ResK_same (pureL_map trd_pure _).noRef ?_; conv => whnf)
              | (refine NoRefK_intro (pureL_map trd_pure _).noRef ?_; conv => whnf)
            as_aux_lemma =>
              refine brLt (fun h => by exfalso; omega) (fun _ => ?_)
              conv => whnf
              repeat first
                | (refine takeK_full (by first | exact rfl) ?_; conv => whnf)
                | (refine NeedK_intro (by first | rfl | exact (pureL_map trd_pure _).clean | exact (pureL_map trd_pure _).noRef | exact (pureL_map trd_pure _).clean | exact (pureL_map trd_pure _).noRef | (simp [mkLs_len]; done)) ?_; conv => whnf)
                | (refine ErK_intro _ (pureL_map trd_pure _).clean (eraseL_mapTo (g := LineV.dat) trd_erase _) ?_; conv => whnf)
                | (refine ResK_same (pureL_map trd_pure _).noRef ?_; conv => whnf)
                | (refine NoRefK_intro (pureL_map trd_pure _).noRef ?_; conv => whnf)
              refine CallK_tr (c_laws_eqBillLineS _ _ hr hr) (fun _ => ?_) (fun h => absurd rfl h)
              conv => whnf
              refine brNBEq (fun _ => ?_) (fun h => absurd rfl h)
              conv => whnf
              repeat first
                | (refine takeK_full (by first | exact rfl) ?_; conv => whnf)
                | (refine NeedK_intro (by first | rfl | exact (pureL_map trd_pure _).clean | exact (pureL_map trd_pure _).noRef | exact (pureL_map trd_pure _).clean | exact (pureL_map trd_pure _).noRef | (simp [mkLs_len]; done)) ?_; conv => whnf)
                | (refine ErK_intro _ (pureL_map trd_pure _).clean (eraseL_mapTo (g := LineV.dat) trd_erase _) ?_; conv => whnf)
                | (refine ResK_same (pureL_map trd_pure _).noRef ?_; conv => whnf)
                | (refine NoRefK_intro (pureL_map trd_pure _).noRef ?_; conv => whnf)
              refine TCallK_intro (c_laws_markBillLineS _ (by omega) _ (by omega) (by omega)) ?_
              conv => whnf
              refine WkK_intro [(0, .pl), (1, .pl), (5, .key 5), (8, .fz), (9, .pl), (12, .tree 12), (15, .pl)] ?_
              conv => whnf
              repeat first
                | (refine takeK_full (by first | exact rfl) ?_; conv => whnf)
                | (refine NeedK_intro (by first | rfl | exact (pureL_map trd_pure _).clean | exact (pureL_map trd_pure _).noRef | exact (pureL_map trd_pure _).clean | exact (pureL_map trd_pure _).noRef | (simp [mkLs_len]; done)) ?_; conv => whnf)
                | (refine ErK_intro _ (pureL_map trd_pure _).clean (eraseL_mapTo (g := LineV.dat) trd_erase _) ?_; conv => whnf)
                | (refine ResK_same (pureL_map trd_pure _).noRef ?_; conv => whnf)
                | (refine NoRefK_intro (pureL_map trd_pure _).noRef ?_; conv => whnf)
              as_aux_lemma =>
                repeat first
                  | (refine takeK_full (by first | exact rfl) ?_; conv => whnf)
                  | (refine NeedK_intro (by first | rfl | exact (pureL_map trd_pure _).clean | exact (pureL_map trd_pure _).noRef | exact (pureL_map trd_pure _).clean | exact (pureL_map trd_pure _).noRef | (simp [mkLs_len]; done)) ?_; conv => whnf)
                  | (refine ErK_intro _ (pureL_map trd_pure _).clean (eraseL_mapTo (g := LineV.dat) trd_erase _) ?_; conv => whnf)
                  | (refine ResK_same (pureL_map trd_pure _).noRef ?_; conv => whnf)
                  | (refine NoRefK_intro (pureL_map trd_pure _).noRef ?_; conv => whnf)
                refine CallK_intro (c_laws_heldBillLineS _ (by omega) _ (by omega) (by omega)) ?_
                conv => whnf
                refine WkK_intro [(0, .pl), (1, .pl), (5, .key 5), (8, .fz), (9, .pl), (12, .tree 12), (15, .pl), (16, .pl)] ?_
                conv => whnf
                repeat first
                  | (refine takeK_full (by first | exact rfl) ?_; conv => whnf)
                  | (refine NeedK_intro (by first | rfl | exact (pureL_map trd_pure _).clean | exact (pureL_map trd_pure _).noRef | exact (pureL_map trd_pure _).clean | exact (pureL_map trd_pure _).noRef | (simp [mkLs_len]; done)) ?_; conv => whnf)
                  | (refine ErK_intro _ (pureL_map trd_pure _).clean (eraseL_mapTo (g := LineV.dat) trd_erase _) ?_; conv => whnf)
                  | (refine ResK_same (pureL_map trd_pure _).noRef ?_; conv => whnf)
                  | (refine NoRefK_intro (pureL_map trd_pure _).noRef ?_; conv => whnf)
                as_aux_lemma =>
                  refine brLt (fun h => by exfalso; omega) (fun _ => ?_)
                  conv => whnf
                  refine brNEq (fun _ => ?_) (fun h => absurd rfl h)
                  conv => whnf
                  refine CallK_intro (c_laws_toItemS a0 (by omega) k0.2) ?_
                  conv => whnf
                  refine CallK_intro (c_laws_toBillLineS a1 (by omega) k1.2) ?_
                  conv => whnf
                  refine CallK_intro (c_laws_toChange a2 k2) ?_
                  conv => whnf
                  repeat first
                    | (refine takeK_full (by first | exact rfl) ?_; conv => whnf)
                    | (refine NeedK_intro (by first | rfl | exact (pureL_map trd_pure _).clean | exact (pureL_map trd_pure _).noRef | exact (pureL_map trd_pure _).clean | exact (pureL_map trd_pure _).noRef | (simp [mkLs_len]; done)) ?_; conv => whnf)
                    | (refine ErK_intro _ (pureL_map trd_pure _).clean (eraseL_mapTo (g := LineV.dat) trd_erase _) ?_; conv => whnf)
                    | (refine ResK_same (pureL_map trd_pure _).noRef ?_; conv => whnf)
                    | (refine NoRefK_intro (pureL_map trd_pure _).noRef ?_; conv => whnf)
                  refine CallK_intro (c_impl_ApplyChangeT a0 k0 a1 k1 a2 k2) ?_
                  conv => whnf
                  refine NeedK_intro (pureL_map trd_pure _).clean ?_
                  conv => whnf
                  refine WkK_intro [(8, .fz), (9, .pl), (12, .tree 12), (15, .pl), (16, .pl), (17, .tree 17), (18, .pl)] ?_
                  conv => whnf
                  repeat first
                    | (refine takeK_full (by first | exact rfl) ?_; conv => whnf)
                    | (refine NeedK_intro (by first | rfl | exact (pureL_map trd_pure _).clean | exact (pureL_map trd_pure _).noRef | exact (pureL_map trd_pure _).clean | exact (pureL_map trd_pure _).noRef | (simp [mkLs_len]; done)) ?_; conv => whnf)
                    | (refine ErK_intro _ (pureL_map trd_pure _).clean (eraseL_mapTo (g := LineV.dat) trd_erase _) ?_; conv => whnf)
                    | (refine ResK_same (pureL_map trd_pure _).noRef ?_; conv => whnf)
                    | (refine NoRefK_intro (pureL_map trd_pure _).noRef ?_; conv => whnf)
                  as_aux_lemma =>
                    repeat first
                      | (refine takeK_full (by first | exact rfl) ?_; conv => whnf)
                      | (refine NeedK_intro (by first | rfl | exact (pureL_map trd_pure _).clean | exact (pureL_map trd_pure _).noRef | exact (pureL_map trd_pure _).clean | exact (pureL_map trd_pure _).noRef | (simp [mkLs_len]; done)) ?_; conv => whnf)
                      | (refine ErK_intro _ (pureL_map trd_pure _).clean (eraseL_mapTo (g := LineV.dat) trd_erase _) ?_; conv => whnf)
                      | (refine ResK_same (pureL_map trd_pure _).noRef ?_; conv => whnf)
                      | (refine NoRefK_intro (pureL_map trd_pure _).noRef ?_; conv => whnf)
                    refine CallK_tr (c_laws_eqBillLineS _ _ hr hr) (fun _ => ?_) (fun h => absurd rfl h)
                    conv => whnf
                    refine brNBEq (fun _ => ?_) (fun h => absurd rfl h)
                    conv => whnf
                    repeat first
                      | (refine takeK_full (by first | exact rfl) ?_; conv => whnf)
                      | (refine NeedK_intro (by first | rfl | exact (pureL_map trd_pure _).clean | exact (pureL_map trd_pure _).noRef | exact (pureL_map trd_pure _).clean | exact (pureL_map trd_pure _).noRef | (simp [mkLs_len]; done)) ?_; conv => whnf)
                      | (refine ErK_intro _ (pureL_map trd_pure _).clean (eraseL_mapTo (g := LineV.dat) trd_erase _) ?_; conv => whnf)
                      | (refine ResK_same (pureL_map trd_pure _).noRef ?_; conv => whnf)
                      | (refine NoRefK_intro (pureL_map trd_pure _).noRef ?_; conv => whnf)
                    refine CallK_intro (c_laws_heldBillLineS _ (by omega) _ (by omega) (by omega)) ?_
                    conv => whnf
                    refine WkK_intro [(15, .pl), (16, .pl)] ?_
                    conv => whnf
                    repeat first
                      | (refine takeK_full (by first | exact rfl) ?_; conv => whnf)
                      | (refine NeedK_intro (by first | rfl | exact (pureL_map trd_pure _).clean | exact (pureL_map trd_pure _).noRef | exact (pureL_map trd_pure _).clean | exact (pureL_map trd_pure _).noRef | (simp [mkLs_len]; done)) ?_; conv => whnf)
                      | (refine ErK_intro _ (pureL_map trd_pure _).clean (eraseL_mapTo (g := LineV.dat) trd_erase _) ?_; conv => whnf)
                      | (refine ResK_same (pureL_map trd_pure _).noRef ?_; conv => whnf)
                      | (refine NoRefK_intro (pureL_map trd_pure _).noRef ?_; conv => whnf)
                    as_aux_lemma =>
                      refine brLt (fun h => by exfalso; omega) (fun _ => ?_)
                      conv => whnf
                      refine brNEq (fun _ => ?_) (fun h => absurd rfl h)
                      conv => whnf


theorem law_FnExactApplyChange : ∀ xs, HasTys [.sl ItemV.ty, .sl LineV.ty, ChangeV.ty] xs → Contract Try.prog 7 (xs.map .d) (.one (.d (.sc (.bool true)))) := by
  intro xs h
  obtain ⟨d0, r0, rfl, h0, g0⟩ := HasTys_cons h
  obtain ⟨a0, rfl, k0⟩ := sl_dec (fun _ => ItemV.dec) h0
  have k0 : okL ItemV.ok a0 := k0
  obtain ⟨d1, r1, rfl, h1, g1⟩ := HasTys_cons g0
  obtain ⟨a1, rfl, k1⟩ := sl_dec (fun _ => LineV.dec) h1
  have k1 : okL LineV.ok a1 := k1
  obtain ⟨d2, r2, rfl, h2, g2⟩ := HasTys_cons g1
  obtain ⟨a2, rfl, k2⟩ := ChangeV.dec h2
  cases HasTys_nil g2
  clear h0 h1 h2
  exact law0_FnExactApplyChange a0 k0 a1 k1 a2 k2
end Go.DL
namespace Go.Proofs.Ytamhoddnnifbiaa
open Go.ChangeShapes Go.WideShapes Go.ChangeAt Go.RowKit
theorem Try.cpD : Try.checked.prog = Try.prog := by kernel_rfl
theorem Try.ownD : ownKnob Try.checked.prog.godebug = none := by kernel_rfl
theorem Try.laidOutD : laidOutB Try.checked.prog = true := by kernel_rfl
theorem Try.lawD : ∀ xs, DL.HasTys [.sl DL.ItemV.ty, .sl DL.LineV.ty, DL.ChangeV.ty] xs → DL.Contract Try.checked.prog 7 (xs.map .d) (.one (.d (.sc (.bool true)))) := by rw [Try.cpD]; exact DL.law_FnExactApplyChange
theorem fnExactApplyChange_lifted (os : Os) (started : os.Started) (H : Type) (enc : TypeId × Value → H) :
    ReturnsInHanded {} Try.checked os 7 .any (Rows.fnExactApplyChangeSpec.pre6 enc Try.checked.prog Try.f7 Rows.fnExactApplyChangeRow.domain false) (Rows.fnExactApplyChangeSpec.post enc Try.checked.prog Try.f7 false true false false) := by
  refine returnsInHanded_of_change (C := Try.checked) Try.ownD started (by kernel_rfl) Try.func7
    (ChangeSpec.witness6 (enc := enc) (C := Try.checked) false ⟨#[], #[.slice none 0 0, .slice none 0 0, .agg #[.int .i64 0, .string ⟨#[]⟩, .string ⟨#[]⟩, .string ⟨#[]⟩, .int .i64 0]], []⟩ 8 (by kernel_rfl) (by kernel_rfl) (by kernel_rfl) (by kernel_rfl)) ?_
  intro W base args ds gs before hval0 hW0 _ _
  exact DL.law_calls (P := Try.checked.prog) (fn := Try.f7) (s := Rows.fnExactApplyChangeSpec) (ts := [39, 40, 64]) (tb := 4) (tys := [.sl DL.ItemV.ty, .sl DL.LineV.ty, DL.ChangeV.ty]) (by kernel_rfl) (by kernel_rfl) (by kernel_rfl) rfl
    (fun ds h => match ds, h with | [d0, d1, d2], _ => rfl) Try.laidOutD (by kernel_rfl) Try.lawD W base args ds gs before @hval0 hW0
/-- The law returns true, whatever comes in. -/
theorem FnExactApplyChange_holds : Rows.FnExactApplyChangeSaid :=
  OpenClaim.holds_of_wide 7 Try.f7 rfl rfl rfl rfl rfl rfl rfl ⟨rfl, rfl, rfl, rfl, rfl⟩ rfl rfl rfl rfl rfl (by kernel_rfl) Try.func7 (by kernel_rfl)
    (of_decide_eq_true (by kernel_rfl)) (by unfold Func.isWrapper; first | (rw [if_pos (by decide +kernel)]; kernel_rfl) | (rw [if_neg (by decide +kernel)]; exact ⟨rfl, rfl⟩))
    (fun os started H enc _ => fnExactApplyChange_lifted os started H enc)
end Go.Proofs.Ytamhoddnnifbiaa
namespace Go.DL

end Go.DL
