/- The statement FnExactWaysToSaid: the law returns true for every input that can be read as data, and each argument reads afterwards as it read before. No conditions. -/
import Derived.Test.YthifncefbpmdiaaM
import Derived.Test.YthifncefbpmdiaaTB
import Derived.Test.YthifncefbpmdiaaPN
import Derived.ProofKit
namespace Go.DL
set_option maxRecDepth 100000
set_option maxHeartbeats 2000000
set_option linter.unusedSimpArgs false
set_option linter.unusedVariables false
open Go.RowKit Go.Proofs Go.Proofs.Ythifncefbpmdiaa

set_option maxHeartbeats 16000000 in
theorem law0_FnExactWaysTo (a0 : List ItemV) (k0 : okL ItemV.ok a0) (a1 : List LineV) (k1 : okL LineV.ok a1) (a2 : ByteArray) (a3 : ByteArray) (a4 : Int) (k4 : okI a4) (a5 : List PickV) (k5 : okL PickV.ok a5) : Contract Try.prog 11 [.d (lD ItemV.dat a0), .d (lD LineV.dat a1), .d (sD a2), .d (sD a3), .d (iD a4), .d (lD PickV.dat a5)] (.one (.d (.sc (.bool true)))) := by
  have lw0 := wtL_len (wt := ItemV.wt) (l := a0)
  have lw1 := wtL_len (wt := LineV.wt) (l := a1)
  have lw5 := wtL_len (wt := PickV.wt) (l := a5)
  obtain ⟨hr, hrl⟩ := waysV_ok a0 k0 a1 k1 a2 a3 a4 a5 k5
  have hmk := mkLk_bnd a1 (1 + 8 * (a0.length : Int))
  refine contract_byR [100000 + 40, 100000 + 41, 100000 + 39, 100000 + 49, 600000 + 60, 600000 + 38, 600000 + 40, 600000 + 34, 10000000 + 51, 10000000 + 57, 10000000 + 92, 10000000 + 137, 1100000 + 15, 1100000 + 16, 1100000 + 17, 1100000 + 18, 1100000 + 19, 1100000 + 29, 1100000 + 30, 1100000 + 31, 1100000 + 35, 1100000 + 37, 1100000 + 42, 1100000 + 46] hma hTa Try.func11 (by kernel_rfl) (by kernel_rfl) ?_
  conv => whnf
  refine brLt (fun h => ?_) (fun h => ?_) <;> conv => whnf
  refine brLt (fun h => ?_) (fun h => ?_) <;> conv => whnf
  refine CallK_sz (c_laws_szItemS _ _ (by omega) (by omega) (by assumption)) (fun hc => ?_) (fun hc => ?_) <;> conv => whnf
  · refine brLt (fun h => ?_) (fun h => by exfalso; omega)
    conv => whnf
  refine brLt (fun h => by exfalso; omega) (fun _ => ?_)
  conv => whnf
  refine CallK_sz (c_laws_szBillLineS _ _ (by omega) (by omega) (by assumption)) (fun hc => ?_) (fun hc => ?_) <;> conv => whnf
  · refine brLt (fun h => ?_) (fun h => by exfalso; omega)
    conv => whnf
  refine brLt (fun h => by exfalso; omega) (fun _ => ?_)
  conv => whnf
  refine CallK_sz (c_laws_szPickS _ _ (by omega) (by omega) (by assumption)) (fun hc => ?_) (fun hc => ?_) <;> conv => whnf
  · refine brLt (fun h => ?_) (fun h => by exfalso; omega)
    conv => whnf
  refine brLt (fun h => by exfalso; omega) (fun _ => ?_)
  conv => whnf
  refine CallK_intro (c_laws_toItemS a0 (by omega) k0.2) ?_
  conv => whnf
  refine CallK_intro (c_laws_toBillLineS a1 (by omega) k1.2) ?_
  conv => whnf
  refine CallK_intro (c_laws_toPickS a5 (by omega) k5.2) ?_
  conv => whnf
  repeat first
    | (refine takeK_full (by first | exact rfl | simp [mkIntL_len]) ?_; conv => whnf)
    | (refine NeedK_intro (by first | rfl | exact (pureL_map trd_pure _).clean | exact (pureL_map trd_pure _).noRef | (simp; done)) ?_; conv => whnf)
    | (refine ErK_intro _ (pureL_map trd_pure _).clean (eraseL_mapTo (g := LineV.dat) trd_erase _) ?_; conv => whnf)
    | (refine ResK_same (pureL_map trd_pure _).noRef ?_; conv => whnf)
    | (refine NoRefK_intro (pureL_map trd_pure _).noRef ?_; conv => whnf)
  refine CallK_intro (c_spec_WaysToV a0 k0 a1 k1 a2 a3 a4 k4 a5 k5) ?_
  conv => whnf
  refine WkK_intro [(0, .pl), (1, .pl), (2, .pl), (3, .pl), (4, .pl), (5, .pl), (14, .fz), (15, .pl)] ?_
  conv => whnf
  repeat first
    | (refine takeK_full (by first | exact rfl | simp [mkIntL_len]) ?_; conv => whnf)
    | (refine NeedK_intro (by first | rfl | exact (pureL_map trd_pure _).clean | exact (pureL_map trd_pure _).noRef | (simp; done)) ?_; conv => whnf)
    | (refine ErK_intro _ (pureL_map trd_pure _).clean (eraseL_mapTo (g := LineV.dat) trd_erase _) ?_; conv => whnf)
    | (refine ResK_same (pureL_map trd_pure _).noRef ?_; conv => whnf)
    | (refine NoRefK_intro (pureL_map trd_pure _).noRef ?_; conv => whnf)
  as_aux_lemma =>
    refine CallK_intro (c_laws_toItemS a0 (by omega) k0.2) ?_
    conv => whnf
    refine WkK_intro [(0, .pl), (1, .pl), (2, .pl), (3, .pl), (4, .pl), (5, .pl), (14, .fz), (15, .pl), (16, .key 16)] ?_
    conv => whnf
    repeat first
      | (refine takeK_full (by first | exact rfl | simp [mkIntL_len]) ?_; conv => whnf)
      | (refine NeedK_intro (by first | rfl | exact (pureL_map trd_pure _).clean | exact (pureL_map trd_pure _).noRef | (simp; done)) ?_; conv => whnf)
      | (refine ErK_intro _ (pureL_map trd_pure _).clean (eraseL_mapTo (g := LineV.dat) trd_erase _) ?_; conv => whnf)
      | (refine ResK_same (pureL_map trd_pure _).noRef ?_; conv => whnf)
      | (refine NoRefK_intro (pureL_map trd_pure _).noRef ?_; conv => whnf)
    as_aux_lemma =>
      refine CallK_intro (c_laws_toBillLineST a1 (by omega) k1.2) ?_
      conv => whnf
      repeat first
        | (refine takeK_full (by first | exact rfl | simp [mkIntL_len]) ?_; conv => whnf)
        | (refine NeedK_intro (by first | rfl | exact (pureL_map trd_pure _).clean | exact (pureL_map trd_pure _).noRef | (simp; done)) ?_; conv => whnf)
        | (refine ErK_intro _ (pureL_map trd_pure _).clean (eraseL_mapTo (g := LineV.dat) trd_erase _) ?_; conv => whnf)
        | (refine ResK_same (pureL_map trd_pure _).noRef ?_; conv => whnf)
        | (refine NoRefK_intro (pureL_map trd_pure _).noRef ?_; conv => whnf)
      refine WkK_intro [(0, .pl), (1, .pl), (2, .pl), (3, .pl), (4, .pl), (5, .pl), (14, .fz), (15, .pl), (16, .key 16), (17, .tree 17)] ?_
      conv => whnf
      repeat first
        | (refine takeK_full (by first | exact rfl | simp [mkIntL_len]) ?_; conv => whnf)
        | (refine NeedK_intro (by first | rfl | exact (pureL_map trd_pure _).clean | exact (pureL_map trd_pure _).noRef | (simp; done)) ?_; conv => whnf)
        | (refine ErK_intro _ (pureL_map trd_pure _).clean (eraseL_mapTo (g := LineV.dat) trd_erase _) ?_; conv => whnf)
        | (refine ResK_same (pureL_map trd_pure _).noRef ?_; conv => whnf)
        | (refine NoRefK_intro (pureL_map trd_pure _).noRef ?_; conv => whnf)
      as_aux_lemma =>
        refine CallK_intro (c_laws_toPickS a5 (by omega) k5.2) ?_
        conv => whnf
        refine WkK_intro [(0, .pl), (1, .pl), (2, .pl), (3, .pl), (4, .pl), (5, .pl), (14, .fz), (15, .pl), (16, .key 16), (17, .tree 17), (18, .key 18)] ?_
        conv => whnf
        repeat first
          | (refine takeK_full (by first | exact rfl | simp [mkIntL_len]) ?_; conv => whnf)
          | (refine NeedK_intro (by first | rfl | exact (pureL_map trd_pure _).clean | exact (pureL_map trd_pure _).noRef | (simp; done)) ?_; conv => whnf)
          | (refine ErK_intro _ (pureL_map trd_pure _).clean (eraseL_mapTo (g := LineV.dat) trd_erase _) ?_; conv => whnf)
          | (refine ResK_same (pureL_map trd_pure _).noRef ?_; conv => whnf)
          | (refine NoRefK_intro (pureL_map trd_pure _).noRef ?_; conv => whnf)
        as_aux_lemma =>
          repeat first
            | (refine takeK_full (by first | exact rfl | simp [mkIntL_len]) ?_; conv => whnf)
            | (refine NeedK_intro (by first | rfl | exact (pureL_map trd_pure _).clean | exact (pureL_map trd_pure _).noRef | (simp; done)) ?_; conv => whnf)
            | (refine ErK_intro _ (pureL_map trd_pure _).clean (eraseL_mapTo (g := LineV.dat) trd_erase _) ?_; conv => whnf)
            | (refine ResK_same (pureL_map trd_pure _).noRef ?_; conv => whnf)
            | (refine NoRefK_intro (pureL_map trd_pure _).noRef ?_; conv => whnf)
          refine CallK_intro (c_impl_WaysToV a0 k0 a1 k1 a2 a3 a4 k4 a5 k5) ?_
          conv => whnf
          refine WkK_intro [(0, .pl), (1, .pl), (2, .pl), (3, .pl), (4, .pl), (5, .pl), (14, .fz), (15, .pl), (16, .key 16), (17, .tree 17), (18, .key 18), (19, .key 19), (20, .pl)] ?_
          conv => whnf
          repeat first
            | (refine takeK_full (by first | exact rfl | simp [mkIntL_len]) ?_; conv => whnf)
            | (refine NeedK_intro (by first | rfl | exact (pureL_map trd_pure _).clean | exact (pureL_map trd_pure _).noRef | (simp; done)) ?_; conv => whnf)
            | (refine ErK_intro _ (pureL_map trd_pure _).clean (eraseL_mapTo (g := LineV.dat) trd_erase _) ?_; conv => whnf)
            | (refine ResK_same (pureL_map trd_pure _).noRef ?_; conv => whnf)
            | (refine NoRefK_intro (pureL_map trd_pure _).noRef ?_; conv => whnf)
          as_aux_lemma =>
            repeat first
              | (refine takeK_full (by first | exact rfl | simp [mkIntL_len]) ?_; conv => whnf)
              | (refine NeedK_intro (by first | rfl | exact (pureL_map trd_pure _).clean | exact (pureL_map trd_pure _).noRef | (simp; done)) ?_; conv => whnf)
              | (refine ErK_intro _ (pureL_map trd_pure _).clean (eraseL_mapTo (g := LineV.dat) trd_erase _) ?_; conv => whnf)
              | (refine ResK_same (pureL_map trd_pure _).noRef ?_; conv => whnf)
              | (refine NoRefK_intro (pureL_map trd_pure _).noRef ?_; conv => whnf)
            refine CallK_tr (c_laws_eqIntS _ _ hr hr) (fun _ => ?_) (fun h => absurd rfl h)
            conv => whnf
            refine brNBEq (fun _ => ?_) (fun h => absurd rfl h)
            conv => whnf
            refine CallK_intro (c_laws_toItemS a0 (by omega) k0.2) ?_
            conv => whnf
            repeat first
              | (refine takeK_full (by first | exact rfl | simp [mkIntL_len]) ?_; conv => whnf)
              | (refine NeedK_intro (by first | rfl | exact (pureL_map trd_pure _).clean | exact (pureL_map trd_pure _).noRef | (simp; done)) ?_; conv => whnf)
              | (refine ErK_intro _ (pureL_map trd_pure _).clean (eraseL_mapTo (g := LineV.dat) trd_erase _) ?_; conv => whnf)
              | (refine ResK_same (pureL_map trd_pure _).noRef ?_; conv => whnf)
              | (refine NoRefK_intro (pureL_map trd_pure _).noRef ?_; conv => whnf)
            refine CallK_tr (c_laws_eqItemS _ _ k0 k0) (fun _ => ?_) (fun h => absurd rfl h)
            conv => whnf
            refine CallK_intro (c_laws_toBillLineS a1 (by omega) k1.2) ?_
            conv => whnf
            repeat first
              | (refine takeK_full (by first | exact rfl | simp [mkIntL_len]) ?_; conv => whnf)
              | (refine NeedK_intro (by first | rfl | exact (pureL_map trd_pure _).clean | exact (pureL_map trd_pure _).noRef | (simp; done)) ?_; conv => whnf)
              | (refine ErK_intro _ (pureL_map trd_pure _).clean (eraseL_mapTo (g := LineV.dat) trd_erase _) ?_; conv => whnf)
              | (refine ResK_same (pureL_map trd_pure _).noRef ?_; conv => whnf)
              | (refine NoRefK_intro (pureL_map trd_pure _).noRef ?_; conv => whnf)
            refine CallK_tr (c_laws_eqBillLineS _ _ k1 k1) (fun _ => ?_) (fun h => absurd rfl h)
            conv => whnf
            refine CallK_intro (c_laws_toPickS a5 (by omega) k5.2) ?_
            conv => whnf
            repeat first
              | (refine takeK_full (by first | exact rfl | simp [mkIntL_len]) ?_; conv => whnf)
              | (refine NeedK_intro (by first | rfl | exact (pureL_map trd_pure _).clean | exact (pureL_map trd_pure _).noRef | (simp; done)) ?_; conv => whnf)
              | (refine ErK_intro _ (pureL_map trd_pure _).clean (eraseL_mapTo (g := LineV.dat) trd_erase _) ?_; conv => whnf)
              | (refine ResK_same (pureL_map trd_pure _).noRef ?_; conv => whnf)
              | (refine NoRefK_intro (pureL_map trd_pure _).noRef ?_; conv => whnf)
            refine CallK_tr (c_laws_eqPickS _ _ k5 k5) (fun _ => ?_) (fun h => absurd rfl h)
            conv => whnf
            repeat first
              | (refine takeK_full (by first | exact rfl | simp [mkIntL_len]) ?_; conv => whnf)
              | (refine NeedK_intro (by first | rfl | exact (pureL_map trd_pure _).clean | exact (pureL_map trd_pure _).noRef | (simp; done)) ?_; conv => whnf)
              | (refine ErK_intro _ (pureL_map trd_pure _).clean (eraseL_mapTo (g := LineV.dat) trd_erase _) ?_; conv => whnf)
              | (refine ResK_same (pureL_map trd_pure _).noRef ?_; conv => whnf)
              | (refine NoRefK_intro (pureL_map trd_pure _).noRef ?_; conv => whnf)
            refine LCallK_intro (c_laws_markItemS _ (by omega) _ (by omega) (by omega)) ?_
            conv => whnf
            refine WkK_intro [(0, .pl), (1, .pl), (2, .pl), (3, .pl), (4, .pl), (5, .pl), (14, .fz), (15, .pl), (17, .tree 17), (18, .key 18), (19, .key 19), (20, .pl), (21, .pl)] ?_
            conv => whnf
            repeat first
              | (refine takeK_full (by first | exact rfl | simp [mkIntL_len]) ?_; conv => whnf)
              | (refine NeedK_intro (by first | rfl | exact (pureL_map trd_pure _).clean | exact (pureL_map trd_pure _).noRef | (simp; done)) ?_; conv => whnf)
              | (refine ErK_intro _ (pureL_map trd_pure _).clean (eraseL_mapTo (g := LineV.dat) trd_erase _) ?_; conv => whnf)
              | (refine ResK_same (pureL_map trd_pure _).noRef ?_; conv => whnf)
              | (refine NoRefK_intro (pureL_map trd_pure _).noRef ?_; conv => whnf)
            as_aux_lemma =>
              repeat first
                | (refine takeK_full (by first | exact rfl | simp [mkIntL_len]) ?_; conv => whnf)
                | (refine NeedK_intro (by first | rfl | exact (pureL_map trd_pure _).clean | exact (pureL_map trd_pure _).noRef | (simp; done)) ?_; conv => whnf)
                | (refine ErK_intro _ (pureL_map trd_pure _).clean (eraseL_mapTo (g := LineV.dat) trd_erase _) ?_; conv => whnf)
                | (refine ResK_same (pureL_map trd_pure _).noRef ?_; conv => whnf)
                | (refine NoRefK_intro (pureL_map trd_pure _).noRef ?_; conv => whnf)
              refine TCallK_intro (c_laws_markBillLineS _ (by omega) _ (by omega) (by omega)) ?_
              conv => whnf
              refine WkK_intro [(0, .pl), (1, .pl), (2, .pl), (3, .pl), (4, .pl), (5, .pl), (14, .fz), (15, .pl), (18, .key 18), (19, .key 19), (20, .pl), (21, .pl)] ?_
              conv => whnf
              repeat first
                | (refine takeK_full (by first | exact rfl | simp [mkIntL_len]) ?_; conv => whnf)
                | (refine NeedK_intro (by first | rfl | exact (pureL_map trd_pure _).clean | exact (pureL_map trd_pure _).noRef | (simp; done)) ?_; conv => whnf)
                | (refine ErK_intro _ (pureL_map trd_pure _).clean (eraseL_mapTo (g := LineV.dat) trd_erase _) ?_; conv => whnf)
                | (refine ResK_same (pureL_map trd_pure _).noRef ?_; conv => whnf)
                | (refine NoRefK_intro (pureL_map trd_pure _).noRef ?_; conv => whnf)
              as_aux_lemma =>
                repeat first
                  | (refine takeK_full (by first | exact rfl | simp [mkIntL_len]) ?_; conv => whnf)
                  | (refine NeedK_intro (by first | rfl | exact (pureL_map trd_pure _).clean | exact (pureL_map trd_pure _).noRef | (simp; done)) ?_; conv => whnf)
                  | (refine ErK_intro _ (pureL_map trd_pure _).clean (eraseL_mapTo (g := LineV.dat) trd_erase _) ?_; conv => whnf)
                  | (refine ResK_same (pureL_map trd_pure _).noRef ?_; conv => whnf)
                  | (refine NoRefK_intro (pureL_map trd_pure _).noRef ?_; conv => whnf)
                refine LCallK_intro (c_laws_markPickS _ (by omega) _ (by omega) (by omega)) ?_
                conv => whnf
                refine WkK_intro [(0, .pl), (1, .pl), (2, .pl), (3, .pl), (4, .pl), (5, .pl), (14, .fz), (15, .pl), (19, .key 19), (20, .pl), (21, .pl)] ?_
                conv => whnf
                repeat first
                  | (refine takeK_full (by first | exact rfl | simp [mkIntL_len]) ?_; conv => whnf)
                  | (refine NeedK_intro (by first | rfl | exact (pureL_map trd_pure _).clean | exact (pureL_map trd_pure _).noRef | (simp; done)) ?_; conv => whnf)
                  | (refine ErK_intro _ (pureL_map trd_pure _).clean (eraseL_mapTo (g := LineV.dat) trd_erase _) ?_; conv => whnf)
                  | (refine ResK_same (pureL_map trd_pure _).noRef ?_; conv => whnf)
                  | (refine NoRefK_intro (pureL_map trd_pure _).noRef ?_; conv => whnf)
                as_aux_lemma =>
                  refine brLt (fun h => by exfalso; omega) (fun _ => ?_)
                  conv => whnf
                  repeat first
                    | (refine takeK_full (by first | exact rfl | simp [mkIntL_len]) ?_; conv => whnf)
                    | (refine NeedK_intro (by first | rfl | exact (pureL_map trd_pure _).clean | exact (pureL_map trd_pure _).noRef | (simp; done)) ?_; conv => whnf)
                    | (refine ErK_intro _ (pureL_map trd_pure _).clean (eraseL_mapTo (g := LineV.dat) trd_erase _) ?_; conv => whnf)
                    | (refine ResK_same (pureL_map trd_pure _).noRef ?_; conv => whnf)
                    | (refine NoRefK_intro (pureL_map trd_pure _).noRef ?_; conv => whnf)
                  refine CallK_tr (c_laws_eqIntS _ _ hr hr) (fun _ => ?_) (fun h => absurd rfl h)
                  conv => whnf
                  refine brNBEq (fun _ => ?_) (fun h => absurd rfl h)
                  conv => whnf
                  repeat first
                    | (refine takeK_full (by first | exact rfl | simp [mkIntL_len]) ?_; conv => whnf)
                    | (refine NeedK_intro (by first | rfl | exact (pureL_map trd_pure _).clean | exact (pureL_map trd_pure _).noRef | (simp; done)) ?_; conv => whnf)
                    | (refine ErK_intro _ (pureL_map trd_pure _).clean (eraseL_mapTo (g := LineV.dat) trd_erase _) ?_; conv => whnf)
                    | (refine ResK_same (pureL_map trd_pure _).noRef ?_; conv => whnf)
                    | (refine NoRefK_intro (pureL_map trd_pure _).noRef ?_; conv => whnf)
                  refine LCallK_intro (c_laws_markIntS _ (by omega) _ (by omega) (by omega)) ?_
                  conv => whnf
                  refine WkK_intro [(0, .pl), (1, .pl), (2, .pl), (3, .pl), (4, .pl), (5, .pl), (14, .fz), (15, .pl), (19, .key 19), (22, .pl)] ?_
                  conv => whnf
                  repeat first
                    | (refine takeK_full (by first | exact rfl | simp [mkIntL_len]) ?_; conv => whnf)
                    | (refine NeedK_intro (by first | rfl | exact (pureL_map trd_pure _).clean | exact (pureL_map trd_pure _).noRef | (simp; done)) ?_; conv => whnf)
                    | (refine ErK_intro _ (pureL_map trd_pure _).clean (eraseL_mapTo (g := LineV.dat) trd_erase _) ?_; conv => whnf)
                    | (refine ResK_same (pureL_map trd_pure _).noRef ?_; conv => whnf)
                    | (refine NoRefK_intro (pureL_map trd_pure _).noRef ?_; conv => whnf)
                  as_aux_lemma =>
                    repeat first
                      | (refine takeK_full (by first | exact rfl | simp [mkIntL_len]) ?_; conv => whnf)
                      | (refine NeedK_intro (by first | rfl | exact (pureL_map trd_pure _).clean | exact (pureL_map trd_pure _).noRef | (simp; done)) ?_; conv => whnf)
                      | (refine ErK_intro _ (pureL_map trd_pure _).clean (eraseL_mapTo (g := LineV.dat) trd_erase _) ?_; conv => whnf)
                      | (refine ResK_same (pureL_map trd_pure _).noRef ?_; conv => whnf)
                      | (refine NoRefK_intro (pureL_map trd_pure _).noRef ?_; conv => whnf)
                    refine CallK_intro (c_laws_heldIntS _ (by omega) _ (by omega) (by omega)) ?_
                    conv => whnf
                    refine WkK_intro [(0, .pl), (1, .pl), (2, .pl), (3, .pl), (4, .pl), (5, .pl), (14, .fz), (15, .pl), (19, .key 19), (22, .pl), (23, .pl)] ?_
                    conv => whnf
                    repeat first
                      | (refine takeK_full (by first | exact rfl | simp [mkIntL_len]) ?_; conv => whnf)
                      | (refine NeedK_intro (by first | rfl | exact (pureL_map trd_pure _).clean | exact (pureL_map trd_pure _).noRef | (simp; done)) ?_; conv => whnf)
                      | (refine ErK_intro _ (pureL_map trd_pure _).clean (eraseL_mapTo (g := LineV.dat) trd_erase _) ?_; conv => whnf)
                      | (refine ResK_same (pureL_map trd_pure _).noRef ?_; conv => whnf)
                      | (refine NoRefK_intro (pureL_map trd_pure _).noRef ?_; conv => whnf)
                    as_aux_lemma =>
                      refine brLt (fun h => by exfalso; omega) (fun _ => ?_)
                      conv => whnf
                      refine brNEq (fun _ => ?_) (fun h => absurd rfl h)
                      conv => whnf
                      refine CallK_intro (c_laws_toItemS a0 (by omega) k0.2) ?_
                      conv => whnf
                      refine CallK_intro (c_laws_toBillLineS a1 (by omega) k1.2) ?_
                      conv => whnf
                      refine CallK_intro (c_laws_toPickS a5 (by omega) k5.2) ?_
                      conv => whnf
                      repeat first
                        | (refine takeK_full (by first | exact rfl | simp [mkIntL_len]) ?_; conv => whnf)
                        | (refine NeedK_intro (by first | rfl | exact (pureL_map trd_pure _).clean | exact (pureL_map trd_pure _).noRef | (simp; done)) ?_; conv => whnf)
                        | (refine ErK_intro _ (pureL_map trd_pure _).clean (eraseL_mapTo (g := LineV.dat) trd_erase _) ?_; conv => whnf)
                        | (refine ResK_same (pureL_map trd_pure _).noRef ?_; conv => whnf)
                        | (refine NoRefK_intro (pureL_map trd_pure _).noRef ?_; conv => whnf)
                      refine CallK_intro (c_impl_WaysToV a0 k0 a1 k1 a2 a3 a4 k4 a5 k5) ?_
                      conv => whnf
                      refine WkK_intro [(14, .fz), (15, .pl), (19, .key 19), (22, .pl), (23, .pl), (24, .key 24), (25, .pl)] ?_
                      conv => whnf
                      repeat first
                        | (refine takeK_full (by first | exact rfl | simp [mkIntL_len]) ?_; conv => whnf)
                        | (refine NeedK_intro (by first | rfl | exact (pureL_map trd_pure _).clean | exact (pureL_map trd_pure _).noRef | (simp; done)) ?_; conv => whnf)
                        | (refine ErK_intro _ (pureL_map trd_pure _).clean (eraseL_mapTo (g := LineV.dat) trd_erase _) ?_; conv => whnf)
                        | (refine ResK_same (pureL_map trd_pure _).noRef ?_; conv => whnf)
                        | (refine NoRefK_intro (pureL_map trd_pure _).noRef ?_; conv => whnf)
                      as_aux_lemma =>
                        repeat first
                          | (refine takeK_full (by first | exact rfl | simp [mkIntL_len]) ?_; conv => whnf)
                          | (refine NeedK_intro (by first | rfl | exact (pureL_map trd_pure _).clean | exact (pureL_map trd_pure _).noRef | (simp; done)) ?_; conv => whnf)
                          | (refine ErK_intro _ (pureL_map trd_pure _).clean (eraseL_mapTo (g := LineV.dat) trd_erase _) ?_; conv => whnf)
                          | (refine ResK_same (pureL_map trd_pure _).noRef ?_; conv => whnf)
                          | (refine NoRefK_intro (pureL_map trd_pure _).noRef ?_; conv => whnf)
                        refine CallK_tr (c_laws_eqIntS _ _ hr hr) (fun _ => ?_) (fun h => absurd rfl h)
                        conv => whnf
                        refine brNBEq (fun _ => ?_) (fun h => absurd rfl h)
                        conv => whnf
                        repeat first
                          | (refine takeK_full (by first | exact rfl | simp [mkIntL_len]) ?_; conv => whnf)
                          | (refine NeedK_intro (by first | rfl | exact (pureL_map trd_pure _).clean | exact (pureL_map trd_pure _).noRef | (simp; done)) ?_; conv => whnf)
                          | (refine ErK_intro _ (pureL_map trd_pure _).clean (eraseL_mapTo (g := LineV.dat) trd_erase _) ?_; conv => whnf)
                          | (refine ResK_same (pureL_map trd_pure _).noRef ?_; conv => whnf)
                          | (refine NoRefK_intro (pureL_map trd_pure _).noRef ?_; conv => whnf)
                        refine CallK_intro (c_laws_heldIntS _ (by omega) _ (by omega) (by omega)) ?_
                        conv => whnf
                        refine WkK_intro [(22, .pl), (23, .pl)] ?_
                        conv => whnf
                        repeat first
                          | (refine takeK_full (by first | exact rfl | simp [mkIntL_len]) ?_; conv => whnf)
                          | (refine NeedK_intro (by first | rfl | exact (pureL_map trd_pure _).clean | exact (pureL_map trd_pure _).noRef | (simp; done)) ?_; conv => whnf)
                          | (refine ErK_intro _ (pureL_map trd_pure _).clean (eraseL_mapTo (g := LineV.dat) trd_erase _) ?_; conv => whnf)
                          | (refine ResK_same (pureL_map trd_pure _).noRef ?_; conv => whnf)
                          | (refine NoRefK_intro (pureL_map trd_pure _).noRef ?_; conv => whnf)
                        as_aux_lemma =>
                          refine brLt (fun h => by exfalso; omega) (fun _ => ?_)
                          conv => whnf
                          refine brNEq (fun _ => ?_) (fun h => absurd rfl h)
                          conv => whnf


theorem law_FnExactWaysTo : ∀ xs, HasTys [.sl ItemV.ty, .sl LineV.ty, .str, .str, .int, .sl PickV.ty] xs → Contract Try.prog 11 (xs.map .d) (.one (.d (.sc (.bool true)))) := by
  intro xs h
  obtain ⟨d0, r0, rfl, h0, g0⟩ := HasTys_cons h
  obtain ⟨a0, rfl, k0⟩ := sl_dec (fun _ => ItemV.dec) h0
  have k0 : okL ItemV.ok a0 := k0
  obtain ⟨d1, r1, rfl, h1, g1⟩ := HasTys_cons g0
  obtain ⟨a1, rfl, k1⟩ := sl_dec (fun _ => LineV.dec) h1
  have k1 : okL LineV.ok a1 := k1
  obtain ⟨d2, r2, rfl, h2, g2⟩ := HasTys_cons g1
  obtain ⟨a2, rfl, k2⟩ := str_dec h2
  obtain ⟨d3, r3, rfl, h3, g3⟩ := HasTys_cons g2
  obtain ⟨a3, rfl, k3⟩ := str_dec h3
  obtain ⟨d4, r4, rfl, h4, g4⟩ := HasTys_cons g3
  obtain ⟨a4, rfl, k4⟩ := int_dec h4
  obtain ⟨d5, r5, rfl, h5, g5⟩ := HasTys_cons g4
  obtain ⟨a5, rfl, k5⟩ := sl_dec (fun _ => PickV.dec) h5
  have k5 : okL PickV.ok a5 := k5
  cases HasTys_nil g5
  clear h0 h1 h2 h3 h4 h5
  exact law0_FnExactWaysTo a0 k0 a1 k1 a2 a3 a4 k4 a5 k5
end Go.DL
namespace Go.Proofs.Ythifncefbpmdiaa
open Go.ChangeShapes Go.WideShapes Go.ChangeAt Go.RowKit
theorem Try.cpD : Try.checked.prog = Try.prog := by kernel_rfl
theorem Try.ownD : ownKnob Try.checked.prog.godebug = none := by kernel_rfl
theorem Try.laidOutD : laidOutB Try.checked.prog = true := by kernel_rfl
theorem Try.lawD : ∀ xs, DL.HasTys [.sl DL.ItemV.ty, .sl DL.LineV.ty, .str, .str, .int, .sl DL.PickV.ty] xs → DL.Contract Try.checked.prog 11 (xs.map .d) (.one (.d (.sc (.bool true)))) := by rw [Try.cpD]; exact DL.law_FnExactWaysTo
theorem fnExactWaysTo_lifted (os : Os) (started : os.Started) (H : Type) (enc : TypeId × Value → H) :
    ReturnsInHanded {} Try.checked os 11 .any (Rows.fnExactWaysToSpec.pre6 enc Try.checked.prog Try.f11 Rows.fnExactWaysToRow.domain false) (Rows.fnExactWaysToSpec.post enc Try.checked.prog Try.f11 false true false false) := by
  refine returnsInHanded_of_change (C := Try.checked) Try.ownD started (by kernel_rfl) Try.func11
    (ChangeSpec.witness6 (enc := enc) (C := Try.checked) false ⟨#[], #[.slice none 0 0, .slice none 0 0, .string ⟨#[]⟩, .string ⟨#[]⟩, .int .i64 0, .slice none 0 0], []⟩ 8 (by kernel_rfl) (by kernel_rfl) (by kernel_rfl) (by kernel_rfl)) ?_
  intro W base args ds gs before hval0 hW0 _ _
  exact DL.law_calls (P := Try.checked.prog) (fn := Try.f11) (s := Rows.fnExactWaysToSpec) (ts := [43, 44, 9, 9, 3, 60]) (tb := 4) (tys := [.sl DL.ItemV.ty, .sl DL.LineV.ty, .str, .str, .int, .sl DL.PickV.ty]) (by kernel_rfl) (by kernel_rfl) (by kernel_rfl) rfl
    (fun ds h => match ds, h with | [d0, d1, d2, d3, d4, d5], _ => rfl) Try.laidOutD (by kernel_rfl) Try.lawD W base args ds gs before @hval0 hW0
/-- The law returns true, whatever comes in. -/
theorem FnExactWaysTo_holds : Rows.FnExactWaysToSaid :=
  OpenClaim.holds_of_wide 11 Try.f11 rfl rfl rfl rfl rfl rfl rfl ⟨rfl, rfl, rfl, rfl, rfl⟩ rfl rfl rfl rfl rfl (by kernel_rfl) Try.func11 (by kernel_rfl)
    (of_decide_eq_true (by kernel_rfl)) (by unfold Func.isWrapper; first | (rw [if_pos (by decide +kernel)]; kernel_rfl) | (rw [if_neg (by decide +kernel)]; exact ⟨rfl, rfl⟩))
    (fun os started H enc _ => fnExactWaysTo_lifted os started H enc)
end Go.Proofs.Ythifncefbpmdiaa
namespace Go.DL

end Go.DL
