/- The statement FnExactLinesOfSaid: the law returns true for every input that can be read as data, and each argument reads afterwards as it read before. No conditions. -/
import Derived.Test.YtamhoddnnifbiaaM
import Derived.Test.YtamhoddnnifbiaaUE
import Derived.ProofKit
namespace Go.DL
set_option maxRecDepth 100000
set_option maxHeartbeats 2000000
set_option linter.unusedSimpArgs false
set_option linter.unusedVariables false
open Go.RowKit Go.Proofs Go.Proofs.Ytamhoddnnifbiaa

set_option maxHeartbeats 16000000 in
theorem law0_FnExactLinesOf (a0 : List ItemV) (k0 : okL ItemV.ok a0) (a1 : List LineV) (k1 : okL LineV.ok a1) (a2 : ByteArray) (a3 : Int) (k3 : okI a3) (a4 : List PickV) (k4 : okL PickV.ok a4) : Contract Try.prog 4 [.d (lD ItemV.dat a0), .d (lD LineV.dat a1), .d (sD a2), .d (iD a3), .d (lD PickV.dat a4)] (.one (.d (.sc (.bool true)))) := by
  have lw0 := wtL_len (wt := ItemV.wt) (l := a0)
  have lw1 := wtL_len (wt := LineV.wt) (l := a1)
  have lw4 := wtL_len (wt := PickV.wt) (l := a4)
  obtain ⟨hr, hrl⟩ := linesV_ok a0 k0 a1 k1 a2 a3 a4
  have hmk := mkLk_bnd a1 (1 + 8 * (a0.length : Int))
  have hmr := mkLk_bnd (linesV a0 a1 a2 a3 a4) 1
  refine contract_byR [100000 + 30, 100000 + 29, 100000 + 31, 600000 + 25, 600000 + 26, 600000 + 32, 600000 + 30, 600000 + 23, 10000000 + 42, 10000000 + 47, 10000000 + 71, 10000000 + 110, 1100000 + 13, 1100000 + 14, 1100000 + 15, 1100000 + 16, 1100000 + 17, 1100000 + 27, 1100000 + 28, 1100000 + 29, 1100000 + 33, 1100000 + 35, 1100000 + 40, 1100000 + 44] hma hTa Try.func4 (by kernel_rfl) (by kernel_rfl) ?_
  conv => whnf
  refine brLt (fun h => ?_) (fun h => ?_) <;> conv => whnf
  refine CallK_sz (c_laws_szItemS _ _ (by omega) (by omega) (by assumption)) (fun hc => ?_) (fun hc => ?_) <;> conv => whnf
  · refine brLt (fun h => ?_) (fun h => by exfalso; omega)
    conv => whnf
  refine brLt (fun h => by exfalso; omega) (fun _ => ?_)
  conv => whnf
  refine CallK_sz (c_laws_szBillLineS _ _ (by omega) (by omega) (by assumption)) (fun hc => ?_) (fun hc => ?_) <;> conv => whnf
  · refine brLt (fun h => ?_) (fun h => by exfalso; omega)
    conv => whnf
  refine brLt (fun h => by exfalso; omega) (fun _ => ?_)
  conv => whnf
  refine CallK_sz (c_laws_szPickS _ _ (by omega) (by omega) (by assumption)) (fun hc => ?_) (fun hc => ?_) <;> conv => whnf
  · refine brLt (fun h => ?_) (fun h => by exfalso; omega)
    conv => whnf
  refine brLt (fun h => by exfalso; omega) (fun _ => ?_)
  conv => whnf
  refine CallK_intro (c_laws_toItemS a0 (by omega) k0.2) ?_
  conv => whnf
  refine CallK_intro (c_laws_toBillLineS a1 (by omega) k1.2) ?_
  conv => whnf
  refine CallK_intro (c_laws_toPickS a4 (by omega) k4.2) ?_
  conv => whnf
  repeat first
    | (refine takeK_full (by first | exact rfl) ?_; conv => whnf)
    | (refine NeedK_intro (by first | rfl | exact (pureL_map trd_pure _).clean | exact (pureL_map trd_pure _).noRef | exact (pureL_map trd_pure _).clean | exact (pureL_map trd_pure _).noRef | (simp [mkLs_len]; done)) ?_; conv => whnf)
    | (refine ErK_intro _ (pureL_map trd_pure _).clean (eraseL_mapTo (g := LineV.dat) trd_erase _) ?_; conv => whnf)
    | (refine ResK_same (pureL_map trd_pure _).noRef ?_; conv => whnf)
    | (refine NoRefK_intro (pureL_map trd_pure _).noRef ?_; conv => whnf)
  refine CallK_intro (c_spec_LinesOfV a0 k0 a1 k1 a2 a3 a4 k4) ?_
  conv => whnf
  refine WkK_intro [(0, .pl), (1, .pl), (2, .pl), (3, .pl), (4, .pl), (12, .fz)] ?_
  conv => whnf
  repeat first
    | (refine takeK_full (by first | exact rfl) ?_; conv => whnf)
    | (refine NeedK_intro (by first | rfl | exact (pureL_map trd_pure _).clean | exact (pureL_map trd_pure _).noRef | exact (pureL_map trd_pure _).clean | exact (pureL_map trd_pure _).noRef | (simp [mkLs_len]; done)) ?_; conv => whnf)
    | (refine ErK_intro _ (pureL_map trd_pure _).clean (eraseL_mapTo (g := LineV.dat) trd_erase _) ?_; conv => whnf)
    | (refine ResK_same (pureL_map trd_pure _).noRef ?_; conv => whnf)
    | (refine NoRefK_intro (pureL_map trd_pure _).noRef ?_; conv => whnf)
  as_aux_lemma =>
    refine CallK_intro (c_laws_toItemS a0 (by omega) k0.2) ?_
    conv => whnf
    refine WkK_intro [(0, .pl), (1, .pl), (2, .pl), (3, .pl), (4, .pl), (12, .fz), (13, .key 13)] ?_
    conv => whnf
    repeat first
      | (refine takeK_full (by first | exact rfl) ?_; conv => whnf)
      | (refine NeedK_intro (by first | rfl | exact (pureL_map trd_pure _).clean | exact (pureL_map trd_pure _).noRef | exact (pureL_map trd_pure _).clean | exact (pureL_map trd_pure _).noRef | (simp [mkLs_len]; done)) ?_; conv => whnf)
      | (refine ErK_intro _ (pureL_map trd_pure _).clean (eraseL_mapTo (g := LineV.dat) trd_erase _) ?_; conv => whnf)
      | (refine ResK_same (pureL_map trd_pure _).noRef ?_; conv => whnf)
      | (refine NoRefK_intro (pureL_map trd_pure _).noRef ?_; conv => whnf)
    as_aux_lemma =>
      refine CallK_intro (c_laws_toBillLineST a1 (by omega) k1.2) ?_
      conv => whnf
      repeat first
        | (refine takeK_full (by first | exact rfl) ?_; conv => whnf)
        | (refine NeedK_intro (by first | rfl | exact (pureL_map trd_pure _).clean | exact (pureL_map trd_pure _).noRef | exact (pureL_map trd_pure _).clean | exact (pureL_map trd_pure _).noRef | (simp [mkLs_len]; done)) ?_; conv => whnf)
        | (refine ErK_intro _ (pureL_map trd_pure _).clean (eraseL_mapTo (g := LineV.dat) trd_erase _) ?_; conv => whnf)
        | (refine ResK_same (pureL_map trd_pure _).noRef ?_; conv => whnf)
        | (refine NoRefK_intro (pureL_map trd_pure _).noRef ?_; conv => whnf)
      refine WkK_intro [(0, .pl), (1, .pl), (2, .pl), (3, .pl), (4, .pl), (12, .fz), (13, .key 13), (14, .tree 14)] ?_
      conv => whnf
      repeat first
        | (refine takeK_full (by first | exact rfl) ?_; conv => whnf)
        | (refine NeedK_intro (by first | rfl | exact (pureL_map trd_pure _).clean | exact (pureL_map trd_pure _).noRef | exact (pureL_map trd_pure _).clean | exact (pureL_map trd_pure _).noRef | (simp [mkLs_len]; done)) ?_; conv => whnf)
        | (refine ErK_intro _ (pureL_map trd_pure _).clean (eraseL_mapTo (g := LineV.dat) trd_erase _) ?_; conv => whnf)
        | (refine ResK_same (pureL_map trd_pure _).noRef ?_; conv => whnf)
        | (refine NoRefK_intro (pureL_map trd_pure _).noRef ?_; conv => whnf)
      as_aux_lemma =>
        refine CallK_intro (c_laws_toPickS a4 (by omega) k4.2) ?_
        conv => whnf
        refine WkK_intro [(0, .pl), (1, .pl), (2, .pl), (3, .pl), (4, .pl), (12, .fz), (13, .key 13), (14, .tree 14), (15, .key 15)] ?_
        conv => whnf
        repeat first
          | (refine takeK_full (by first | exact rfl) ?_; conv => whnf)
          | (refine NeedK_intro (by first | rfl | exact (pureL_map trd_pure _).clean | exact (pureL_map trd_pure _).noRef | exact (pureL_map trd_pure _).clean | exact (pureL_map trd_pure _).noRef | (simp [mkLs_len]; done)) ?_; conv => whnf)
          | (refine ErK_intro _ (pureL_map trd_pure _).clean (eraseL_mapTo (g := LineV.dat) trd_erase _) ?_; conv => whnf)
          | (refine ResK_same (pureL_map trd_pure _).noRef ?_; conv => whnf)
          | (refine NoRefK_intro (pureL_map trd_pure _).noRef ?_; conv => whnf)
        as_aux_lemma =>
          repeat first
            | (refine takeK_full (by first | exact rfl) ?_; conv => whnf)
            | (refine NeedK_intro (by first | rfl | exact (pureL_map trd_pure _).clean | exact (pureL_map trd_pure _).noRef | exact (pureL_map trd_pure _).clean | exact (pureL_map trd_pure _).noRef | (simp [mkLs_len]; done)) ?_; conv => whnf)
            | (refine ErK_intro _ (pureL_map trd_pure _).clean (eraseL_mapTo (g := LineV.dat) trd_erase _) ?_; conv => whnf)
            | (refine ResK_same (pureL_map trd_pure _).noRef ?_; conv => whnf)
            | (refine NoRefK_intro (pureL_map trd_pure _).noRef ?_; conv => whnf)
          refine CallK_intro (c_impl_LinesOfT a0 k0 a1 k1 a2 a3 a4 k4) ?_
          conv => whnf
          refine NeedK_intro (pureL_map trd_pure _).clean ?_
          conv => whnf
          refine WkK_intro [(0, .pl), (1, .pl), (2, .pl), (3, .pl), (4, .pl), (12, .fz), (13, .key 13), (14, .tree 14), (15, .key 15), (16, .tree 16)] ?_
          conv => whnf
          repeat first
            | (refine takeK_full (by first | exact rfl) ?_; conv => whnf)
            | (refine NeedK_intro (by first | rfl | exact (pureL_map trd_pure _).clean | exact (pureL_map trd_pure _).noRef | exact (pureL_map trd_pure _).clean | exact (pureL_map trd_pure _).noRef | (simp [mkLs_len]; done)) ?_; conv => whnf)
            | (refine ErK_intro _ (pureL_map trd_pure _).clean (eraseL_mapTo (g := LineV.dat) trd_erase _) ?_; conv => whnf)
            | (refine ResK_same (pureL_map trd_pure _).noRef ?_; conv => whnf)
            | (refine NoRefK_intro (pureL_map trd_pure _).noRef ?_; conv => whnf)
          as_aux_lemma =>
            repeat first
              | (refine takeK_full (by first | exact rfl) ?_; conv => whnf)
              | (refine NeedK_intro (by first | rfl | exact (pureL_map trd_pure _).clean | exact (pureL_map trd_pure _).noRef | exact (pureL_map trd_pure _).clean | exact (pureL_map trd_pure _).noRef | (simp [mkLs_len]; done)) ?_; conv => whnf)
              | (refine ErK_intro _ (pureL_map trd_pure _).clean (eraseL_mapTo (g := LineV.dat) trd_erase _) ?_; conv => whnf)
              | (refine ResK_same (pureL_map trd_pure _).noRef ?_; conv => whnf)
              | (refine NoRefK_intro (pureL_map trd_pure _).noRef ?_; conv => whnf)
            refine CallK_tr (c_laws_eqBillLineS _ _ hr hr) (fun _ => ?_) (fun h => absurd rfl h)
            conv => whnf
            refine CallK_intro (c_laws_toItemS a0 (by omega) k0.2) ?_
            conv => whnf
            repeat first
              | (refine takeK_full (by first | exact rfl) ?_; conv => whnf)
              | (refine NeedK_intro (by first | rfl | exact (pureL_map trd_pure _).clean | exact (pureL_map trd_pure _).noRef | exact (pureL_map trd_pure _).clean | exact (pureL_map trd_pure _).noRef | (simp [mkLs_len]; done)) ?_; conv => whnf)
              | (refine ErK_intro _ (pureL_map trd_pure _).clean (eraseL_mapTo (g := LineV.dat) trd_erase _) ?_; conv => whnf)
              | (refine ResK_same (pureL_map trd_pure _).noRef ?_; conv => whnf)
              | (refine NoRefK_intro (pureL_map trd_pure _).noRef ?_; conv => whnf)
            refine CallK_tr (c_laws_eqItemS _ _ k0 k0) (fun _ => ?_) (fun h => absurd rfl h)
            conv => whnf
            refine CallK_intro (c_laws_toBillLineS a1 (by omega) k1.2) ?_
            conv => whnf
            repeat first
              | (refine takeK_full (by first | exact rfl) ?_; conv => whnf)
              | (refine NeedK_intro (by first | rfl | exact (pureL_map trd_pure _).clean | exact (pureL_map trd_pure _).noRef | exact (pureL_map trd_pure _).clean | exact (pureL_map trd_pure _).noRef | (simp [mkLs_len]; done)) ?_; conv => whnf)
              | (refine ErK_intro _ (pureL_map trd_pure _).clean (eraseL_mapTo (g := LineV.dat) trd_erase _) ?_; conv => whnf)
              | (refine ResK_same (pureL_map trd_pure _).noRef ?_; conv => whnf)
              | (refine NoRefK_intro (pureL_map trd_pure _).noRef ?_; conv => whnf)
            refine CallK_tr (c_laws_eqBillLineS _ _ k1 k1) (fun _ => ?_) (fun h => absurd rfl h)
            conv => whnf
            refine CallK_intro (c_laws_toPickS a4 (by omega) k4.2) ?_
            conv => whnf
            repeat first
              | (refine takeK_full (by first | exact rfl) ?_; conv => whnf)
              | (refine NeedK_intro (by first | rfl | exact (pureL_map trd_pure _).clean | exact (pureL_map trd_pure _).noRef | exact (pureL_map trd_pure _).clean | exact (pureL_map trd_pure _).noRef | (simp [mkLs_len]; done)) ?_; conv => whnf)
              | (refine ErK_intro _ (pureL_map trd_pure _).clean (eraseL_mapTo (g := LineV.dat) trd_erase _) ?_; conv => whnf)
              | (refine ResK_same (pureL_map trd_pure _).noRef ?_; conv => whnf)
              | (refine NoRefK_intro (pureL_map trd_pure _).noRef ?_; conv => whnf)
            refine CallK_tr (c_laws_eqPickS _ _ k4 k4) (fun _ => ?_) (fun h => absurd rfl h)
            conv => whnf
            repeat first
              | (refine takeK_full (by first | exact rfl) ?_; conv => whnf)
              | (refine NeedK_intro (by first | rfl | exact (pureL_map trd_pure _).clean | exact (pureL_map trd_pure _).noRef | exact (pureL_map trd_pure _).clean | exact (pureL_map trd_pure _).noRef | (simp [mkLs_len]; done)) ?_; conv => whnf)
              | (refine ErK_intro _ (pureL_map trd_pure _).clean (eraseL_mapTo (g := LineV.dat) trd_erase _) ?_; conv => whnf)
              | (refine ResK_same (pureL_map trd_pure _).noRef ?_; conv => whnf)
              | (refine NoRefK_intro (pureL_map trd_pure _).noRef ?_; conv => whnf)
            refine LCallK_intro (c_laws_markItemS _ (by omega) _ (by omega) (by omega)) ?_
            conv => whnf
            refine WkK_intro [(0, .pl), (1, .pl), (2, .pl), (3, .pl), (4, .pl), (12, .fz), (14, .tree 14), (15, .key 15), (16, .tree 16), (17, .pl)] ?_
            conv => whnf
            repeat first
              | (refine takeK_full (by first | exact rfl) ?_; conv => whnf)
              | (refine NeedK_intro (by first | rfl | exact (pureL_map trd_pure _).clean | exact (pureL_map trd_pure _).noRef | exact (pureL_map trd_pure _).clean | exact (pureL_map trd_pure _).noRef | (simp [mkLs_len]; done)) ?_; conv => whnf)
              | (refine ErK_intro _ (pureL_map trd_pure _).clean (eraseL_mapTo (g := LineV.dat) trd_erase _) ?_; conv => whnf)
              | (refine ResK_same (pureL_map trd_pure _).noRef ?_; conv => whnf)
              | (refine NoRefK_intro (pureL_map trd_pure _).noRef ?_; conv => whnf)
            as_aux_lemma =>
              repeat first
                | (refine takeK_full (by first | exact rfl) ?_; conv => whnf)
                | (refine NeedK_intro (by first | rfl | exact (pureL_map trd_pure _).clean | exact (pureL_map trd_pure _).noRef | exact (pureL_map trd_pure _).clean | exact (pureL_map trd_pure _).noRef | (simp [mkLs_len]; done)) ?_; conv => whnf)
                | (refine ErK_intro _ (pureL_map trd_pure _).clean (eraseL_mapTo (g := LineV.dat) trd_erase _) ?_; conv => whnf)
                | (refine ResK_same (pureL_map trd_pure _).noRef ?_; conv => whnf)
                | (refine NoRefK_intro (pureL_map trd_pure _).noRef ?_; conv => whnf)
              refine TCallK_intro (c_laws_markBillLineS _ (by omega) _ (by omega) (by omega)) ?_
              conv => whnf
              refine WkK_intro [(0, .pl), (1, .pl), (2, .pl), (3, .pl), (4, .pl), (12, .fz), (15, .key 15), (16, .tree 16), (17, .pl)] ?_
              conv => whnf
              repeat first
                | (refine takeK_full (by first | exact rfl) ?_; conv => whnf)
                | (refine NeedK_intro (by first | rfl | exact (pureL_map trd_pure _).clean | exact (pureL_map trd_pure _).noRef | exact (pureL_map trd_pure _).clean | exact (pureL_map trd_pure _).noRef | (simp [mkLs_len]; done)) ?_; conv => whnf)
                | (refine ErK_intro _ (pureL_map trd_pure _).clean (eraseL_mapTo (g := LineV.dat) trd_erase _) ?_; conv => whnf)
                | (refine ResK_same (pureL_map trd_pure _).noRef ?_; conv => whnf)
                | (refine NoRefK_intro (pureL_map trd_pure _).noRef ?_; conv => whnf)
              as_aux_lemma =>
                repeat first
                  | (refine takeK_full (by first | exact rfl) ?_; conv => whnf)
                  | (refine NeedK_intro (by first | rfl | exact (pureL_map trd_pure _).clean | exact (pureL_map trd_pure _).noRef | exact (pureL_map trd_pure _).clean | exact (pureL_map trd_pure _).noRef | (simp [mkLs_len]; done)) ?_; conv => whnf)
                  | (refine ErK_intro _ (pureL_map trd_pure _).clean (eraseL_mapTo (g := LineV.dat) trd_erase _) ?_; conv => whnf)
                  | (refine ResK_same (pureL_map trd_pure _).noRef ?_; conv => whnf)
                  | (refine NoRefK_intro (pureL_map trd_pure _).noRef ?_; conv => whnf)
                refine LCallK_intro (c_laws_markPickS _ (by omega) _ (by omega) (by omega)) ?_
                conv => whnf
                refine WkK_intro [(0, .pl), (1, .pl), (2, .pl), (3, .pl), (4, .pl), (12, .fz), (16, .tree 16), (17, .pl)] ?_
                conv => whnf
                repeat first
                  | (refine takeK_full (by first | exact rfl) ?_; conv => whnf)
                  | (refine NeedK_intro (by first | rfl | exact (pureL_map trd_pure _).clean | exact (pureL_map trd_pure _).noRef | exact (pureL_map trd_pure _).clean | exact (pureL_map trd_pure _).noRef | (simp [mkLs_len]; done)) ?_; conv => whnf)
                  | (refine ErK_intro _ (pureL_map trd_pure _).clean (eraseL_mapTo (g := LineV.dat) trd_erase _) ?_; conv => whnf)
                  | (refine ResK_same (pureL_map trd_pure _).noRef ?_; conv => whnf)
                  | (refine NoRefK_intro (pureL_map trd_pure _).noRef ?_; conv => whnf)
                as_aux_lemma =>
                  refine brLt (fun h => by exfalso; omega) (fun _ => ?_)
                  conv => whnf
                  repeat first
                    | (refine takeK_full (by first | exact rfl) ?_; conv => whnf)
                    | (refine NeedK_intro (by first | rfl | exact (pureL_map trd_pure _).clean | exact (pureL_map trd_pure _).noRef | exact (pureL_map trd_pure _).clean | exact (pureL_map trd_pure _).noRef | (simp [mkLs_len]; done)) ?_; conv => whnf)
                    | (refine ErK_intro _ (pureL_map trd_pure _).clean (eraseL_mapTo (g := LineV.dat) trd_erase _) ?_; conv => whnf)
                    | (refine ResK_same (pureL_map trd_pure _).noRef ?_; conv => whnf)
                    | (refine NoRefK_intro (pureL_map trd_pure _).noRef ?_; conv => whnf)
                  refine CallK_tr (c_laws_eqBillLineS _ _ hr hr) (fun _ => ?_) (fun h => absurd rfl h)
                  conv => whnf
                  repeat first
                    | (refine takeK_full (by first | exact rfl) ?_; conv => whnf)
                    | (refine NeedK_intro (by first | rfl | exact (pureL_map trd_pure _).clean | exact (pureL_map trd_pure _).noRef | exact (pureL_map trd_pure _).clean | exact (pureL_map trd_pure _).noRef | (simp [mkLs_len]; done)) ?_; conv => whnf)
                    | (refine ErK_intro _ (pureL_map trd_pure _).clean (eraseL_mapTo (g := LineV.dat) trd_erase _) ?_; conv => whnf)
                    | (refine ResK_same (pureL_map trd_pure _).noRef ?_; conv => whnf)
                    | (refine NoRefK_intro (pureL_map trd_pure _).noRef ?_; conv => whnf)
                  refine TCallK_intro (c_laws_markBillLineS _ (by omega) _ (by omega) (by omega)) ?_
                  conv => whnf
                  refine WkK_intro [(0, .pl), (1, .pl), (2, .pl), (3, .pl), (4, .pl), (12, .fz), (16, .tree 16), (18, .pl)] ?_
                  conv => whnf
                  repeat first
                    | (refine takeK_full (by first | exact rfl) ?_; conv => whnf)
                    | (refine NeedK_intro (by first | rfl | exact (pureL_map trd_pure _).clean | exact (pureL_map trd_pure _).noRef | exact (pureL_map trd_pure _).clean | exact (pureL_map trd_pure _).noRef | (simp [mkLs_len]; done)) ?_; conv => whnf)
                    | (refine ErK_intro _ (pureL_map trd_pure _).clean (eraseL_mapTo (g := LineV.dat) trd_erase _) ?_; conv => whnf)
                    | (refine ResK_same (pureL_map trd_pure _).noRef ?_; conv => whnf)
                    | (refine NoRefK_intro (pureL_map trd_pure _).noRef ?_; conv => whnf)
                  as_aux_lemma =>
                    repeat first
                      | (refine takeK_full (by first | exact rfl) ?_; conv => whnf)
                      | (refine NeedK_intro (by first | rfl | exact (pureL_map trd_pure _).clean | exact (pureL_map trd_pure _).noRef | exact (pureL_map trd_pure _).clean | exact (pureL_map trd_pure _).noRef | (simp [mkLs_len]; done)) ?_; conv => whnf)
                      | (refine ErK_intro _ (pureL_map trd_pure _).clean (eraseL_mapTo (g := LineV.dat) trd_erase _) ?_; conv => whnf)
                      | (refine ResK_same (pureL_map trd_pure _).noRef ?_; conv => whnf)
                      | (refine NoRefK_intro (pureL_map trd_pure _).noRef ?_; conv => whnf)
                    refine CallK_intro (c_laws_heldBillLineS _ (by omega) _ (by omega) (by omega)) ?_
                    conv => whnf
                    refine WkK_intro [(0, .pl), (1, .pl), (2, .pl), (3, .pl), (4, .pl), (12, .fz), (16, .tree 16), (18, .pl), (19, .pl)] ?_
                    conv => whnf
                    repeat first
                      | (refine takeK_full (by first | exact rfl) ?_; conv => whnf)
                      | (refine NeedK_intro (by first | rfl | exact (pureL_map trd_pure _).clean | exact (pureL_map trd_pure _).noRef | exact (pureL_map trd_pure _).clean | exact (pureL_map trd_pure _).noRef | (simp [mkLs_len]; done)) ?_; conv => whnf)
                      | (refine ErK_intro _ (pureL_map trd_pure _).clean (eraseL_mapTo (g := LineV.dat) trd_erase _) ?_; conv => whnf)
                      | (refine ResK_same (pureL_map trd_pure _).noRef ?_; conv => whnf)
                      | (refine NoRefK_intro (pureL_map trd_pure _).noRef ?_; conv => whnf)
                    as_aux_lemma =>
                      refine brLt (fun h => by exfalso; omega) (fun _ => ?_)
                      conv => whnf
                      refine brNEq (fun _ => ?_) (fun h => absurd rfl h)
                      conv => whnf
                      refine CallK_intro (c_laws_toItemS a0 (by omega) k0.2) ?_
                      conv => whnf
                      refine CallK_intro (c_laws_toBillLineS a1 (by omega) k1.2) ?_
                      conv => whnf
                      refine CallK_intro (c_laws_toPickS a4 (by omega) k4.2) ?_
                      conv => whnf
                      repeat first
                        | (refine takeK_full (by first | exact rfl) ?_; conv => whnf)
                        | (refine NeedK_intro (by first | rfl | exact (pureL_map trd_pure _).clean | exact (pureL_map trd_pure _).noRef | exact (pureL_map trd_pure _).clean | exact (pureL_map trd_pure _).noRef | (simp [mkLs_len]; done)) ?_; conv => whnf)
                        | (refine ErK_intro _ (pureL_map trd_pure _).clean (eraseL_mapTo (g := LineV.dat) trd_erase _) ?_; conv => whnf)
                        | (refine ResK_same (pureL_map trd_pure _).noRef ?_; conv => whnf)
                        | (refine NoRefK_intro (pureL_map trd_pure _).noRef ?_; conv => whnf)
                      refine CallK_intro (c_impl_LinesOfT a0 k0 a1 k1 a2 a3 a4 k4) ?_
                      conv => whnf
                      refine NeedK_intro (pureL_map trd_pure _).clean ?_
                      conv => whnf
                      refine WkK_intro [(12, .fz), (16, .tree 16), (18, .pl), (19, .pl), (20, .tree 20)] ?_
                      conv => whnf
                      repeat first
                        | (refine takeK_full (by first | exact rfl) ?_; conv => whnf)
                        | (refine NeedK_intro (by first | rfl | exact (pureL_map trd_pure _).clean | exact (pureL_map trd_pure _).noRef | exact (pureL_map trd_pure _).clean | exact (pureL_map trd_pure _).noRef | (simp [mkLs_len]; done)) ?_; conv => whnf)
                        | (refine ErK_intro _ (pureL_map trd_pure _).clean (eraseL_mapTo (g := LineV.dat) trd_erase _) ?_; conv => whnf)
                        | (refine ResK_same (pureL_map trd_pure _).noRef ?_; conv => whnf)
                        | (refine NoRefK_intro (pureL_map trd_pure _).noRef ?_; conv => whnf)
                      as_aux_lemma =>
                        repeat first
                          | (refine takeK_full (by first | exact rfl) ?_; conv => whnf)
                          | (refine NeedK_intro (by first | rfl | exact (pureL_map trd_pure _).clean | exact (pureL_map trd_pure _).noRef | exact (pureL_map trd_pure _).clean | exact (pureL_map trd_pure _).noRef | (simp [mkLs_len]; done)) ?_; conv => whnf)
                          | (refine ErK_intro _ (pureL_map trd_pure _).clean (eraseL_mapTo (g := LineV.dat) trd_erase _) ?_; conv => whnf)
                          | (refine ResK_same (pureL_map trd_pure _).noRef ?_; conv => whnf)
                          | (refine NoRefK_intro (pureL_map trd_pure _).noRef ?_; conv => whnf)
                        refine CallK_tr (c_laws_eqBillLineS _ _ hr hr) (fun _ => ?_) (fun h => absurd rfl h)
                        conv => whnf
                        repeat first
                          | (refine takeK_full (by first | exact rfl) ?_; conv => whnf)
                          | (refine NeedK_intro (by first | rfl | exact (pureL_map trd_pure _).clean | exact (pureL_map trd_pure _).noRef | exact (pureL_map trd_pure _).clean | exact (pureL_map trd_pure _).noRef | (simp [mkLs_len]; done)) ?_; conv => whnf)
                          | (refine ErK_intro _ (pureL_map trd_pure _).clean (eraseL_mapTo (g := LineV.dat) trd_erase _) ?_; conv => whnf)
                          | (refine ResK_same (pureL_map trd_pure _).noRef ?_; conv => whnf)
                          | (refine NoRefK_intro (pureL_map trd_pure _).noRef ?_; conv => whnf)
                        refine CallK_intro (c_laws_heldBillLineS _ (by omega) _ (by omega) (by omega)) ?_
                        conv => whnf
                        refine WkK_intro [(18, .pl), (19, .pl)] ?_
                        conv => whnf
                        repeat first
                          | (refine takeK_full (by first | exact rfl) ?_; conv => whnf)
                          | (refine NeedK_intro (by first | rfl | exact (pureL_map trd_pure _).clean | exact (pureL_map trd_pure _).noRef | exact (pureL_map trd_pure _).clean | exact (pureL_map trd_pure _).noRef | (simp [mkLs_len]; done)) ?_; conv => whnf)
                          | (refine ErK_intro _ (pureL_map trd_pure _).clean (eraseL_mapTo (g := LineV.dat) trd_erase _) ?_; conv => whnf)
                          | (refine ResK_same (pureL_map trd_pure _).noRef ?_; conv => whnf)
                          | (refine NoRefK_intro (pureL_map trd_pure _).noRef ?_; conv => whnf)
                        as_aux_lemma =>
                          refine brLt (fun h => by exfalso; omega) (fun _ => ?_)
                          conv => whnf
                          refine brNEq (fun _ => ?_) (fun h => absurd rfl h)
                          conv => whnf


theorem law_FnExactLinesOf : ∀ xs, HasTys [.sl ItemV.ty, .sl LineV.ty, .str, .int, .sl PickV.ty] xs → Contract Try.prog 4 (xs.map .d) (.one (.d (.sc (.bool true)))) := by
  intro xs h
  obtain ⟨d0, r0, rfl, h0, g0⟩ := HasTys_cons h
  obtain ⟨a0, rfl, k0⟩ := sl_dec (fun _ => ItemV.dec) h0
  have k0 : okL ItemV.ok a0 := k0
  obtain ⟨d1, r1, rfl, h1, g1⟩ := HasTys_cons g0
  obtain ⟨a1, rfl, k1⟩ := sl_dec (fun _ => LineV.dec) h1
  have k1 : okL LineV.ok a1 := k1
  obtain ⟨d2, r2, rfl, h2, g2⟩ := HasTys_cons g1
  obtain ⟨a2, rfl, k2⟩ := str_dec h2
  obtain ⟨d3, r3, rfl, h3, g3⟩ := HasTys_cons g2
  obtain ⟨a3, rfl, k3⟩ := int_dec h3
  obtain ⟨d4, r4, rfl, h4, g4⟩ := HasTys_cons g3
  obtain ⟨a4, rfl, k4⟩ := sl_dec (fun _ => PickV.dec) h4
  have k4 : okL PickV.ok a4 := k4
  cases HasTys_nil g4
  clear h0 h1 h2 h3 h4
  exact law0_FnExactLinesOf a0 k0 a1 k1 a2 a3 k3 a4 k4
end Go.DL
namespace Go.Proofs.Ytamhoddnnifbiaa
open Go.ChangeShapes Go.WideShapes Go.ChangeAt Go.RowKit
theorem Try.cpD : Try.checked.prog = Try.prog := by kernel_rfl
theorem Try.ownD : ownKnob Try.checked.prog.godebug = none := by kernel_rfl
theorem Try.laidOutD : laidOutB Try.checked.prog = true := by kernel_rfl
theorem Try.lawD : ∀ xs, DL.HasTys [.sl DL.ItemV.ty, .sl DL.LineV.ty, .str, .int, .sl DL.PickV.ty] xs → DL.Contract Try.checked.prog 4 (xs.map .d) (.one (.d (.sc (.bool true)))) := by rw [Try.cpD]; exact DL.law_FnExactLinesOf
theorem fnExactLinesOf_lifted (os : Os) (started : os.Started) (H : Type) (enc : TypeId × Value → H) :
    ReturnsInHanded {} Try.checked os 4 .any (Rows.fnExactLinesOfSpec.pre6 enc Try.checked.prog Try.f4 Rows.fnExactLinesOfRow.domain false) (Rows.fnExactLinesOfSpec.post enc Try.checked.prog Try.f4 false true false false) := by
  refine returnsInHanded_of_change (C := Try.checked) Try.ownD started (by kernel_rfl) Try.func4
    (ChangeSpec.witness6 (enc := enc) (C := Try.checked) false ⟨#[], #[.slice none 0 0, .slice none 0 0, .string ⟨#[]⟩, .int .i64 0, .slice none 0 0], []⟩ 8 (by kernel_rfl) (by kernel_rfl) (by kernel_rfl) (by kernel_rfl)) ?_
  intro W base args ds gs before hval0 hW0 _ _
  exact DL.law_calls (P := Try.checked.prog) (fn := Try.f4) (s := Rows.fnExactLinesOfSpec) (ts := [39, 40, 9, 3, 41]) (tb := 4) (tys := [.sl DL.ItemV.ty, .sl DL.LineV.ty, .str, .int, .sl DL.PickV.ty]) (by kernel_rfl) (by kernel_rfl) (by kernel_rfl) rfl
    (fun ds h => match ds, h with | [d0, d1, d2, d3, d4], _ => rfl) Try.laidOutD (by kernel_rfl) Try.lawD W base args ds gs before @hval0 hW0
/-- The law returns true, whatever comes in. -/
theorem FnExactLinesOf_holds : Rows.FnExactLinesOfSaid :=
  OpenClaim.holds_of_wide 4 Try.f4 rfl rfl rfl rfl rfl rfl rfl ⟨rfl, rfl, rfl, rfl, rfl⟩ rfl rfl rfl rfl rfl (by kernel_rfl) Try.func4 (by kernel_rfl)
    (of_decide_eq_true (by kernel_rfl)) (by unfold Func.isWrapper; first | (rw [if_pos (by decide +kernel)]; kernel_rfl) | (rw [if_neg (by decide +kernel)]; exact ⟨rfl, rfl⟩))
    (fun os started H enc _ => fnExactLinesOf_lifted os started H enc)
end Go.Proofs.Ytamhoddnnifbiaa
namespace Go.DL

end Go.DL
