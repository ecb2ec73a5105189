/- Contracts of functions of the program, at this seat: what each call returns, by its arguments as data; each states its own conditions. -/
import Derived.Test.YthfagmoaoihhpaaV
import Derived.Test.YthfagmoaoihhpaaT0
import Derived.Test.YthfagmoaoihhpaaS0
namespace Go.DL
set_option maxRecDepth 100000
set_option maxHeartbeats 2000000
set_option linter.unusedSimpArgs false
set_option linter.unusedVariables false
open Go.RowKit Go.Proofs Go.Proofs.Ythfagmoaoihhpaa

/-- A row that is its own. -/
def rowT (r : List PickV) : D := .own 42 2 (r.map PickV.dat)
theorem pick_flatD (x : PickV) : FlatD x.dat := by
  intro f hf
  simp at hf
  rcases hf with rfl | rfl <;> exact ⟨_, rfl⟩
theorem row_pure (r : List PickV) : ∀ d ∈ (rowT r).fl, PureD d := by
  intro d hd
  simp [rowT, D.fl] at hd
  rw [hd]; exact .own _ _ _ (flatL_map pick_flatD _).pure
theorem row_erase (r : List PickV) : erase (rowT r) = lD PickV.dat r := by
  simp [rowT, lD, erase, eraseL_flat (flatL_map pick_flatD r)]
theorem jk_noRef (n : Nat) : NoRefL (List.replicate n D.jk) := fun d hd => by
  obtain ⟨x, hx, hd⟩ := List.mem_flatMap.1 hd
  rw [(List.mem_replicate.1 hx).2] at hd
  rw [List.mem_singleton.1 hd]; exact .jk
theorem noRefL_append2 {a b : List D} (h : NoRefL a) (k : NoRefL b) : NoRefL (a ++ b) := fun d hd => by
  rw [fl_append] at hd
  exact (List.mem_append.1 hd).elim (h d) (k d)
/-- One row has been appended. -/
theorem resRow {σ : St} {k j m : Nat} (pre : List (List PickV)) (x : List PickV) {K : List D → List Nat → Prop} (hB : σ.ab.c j = some ⟨42, 2, x.map PickV.dat⟩) (hsh : σ.ab.sh j = false) (hj : k ≠ j) (hK : K ((pre ++ [x]).map rowT) [j]) :
    ResK σ k (pre.map rowT ++ [.ref j m]) K := by
  refine ResK_intro (U := [j]) (xs' := (pre ++ [x]).map rowT) ?_ (by simp) (by simpa using hj) hK
  rw [List.map_append]
  exact RVL.app (RVL.same (pureL_map row_pure _).noRef) (RVL.cons (x := .ref j m) (x' := rowT x) (r := []) (r' := []) rfl (RVs.one (.refc j m ⟨42, 2, x.map PickV.dat⟩ hB hsh)) (RVL.same (xs := []) (fun d hd => by simp [fl] at hd)))
theorem okRow {j m : Nat} : ∀ d ∈ fl [D.ref j m], okR d = true := fun d hd => by
  simp [fl, D.fl] at hd
  rw [hd]; rfl
/-- Rows are appended one by one. -/
theorem apRow {pre : List (List PickV)} {n : Nat} {y : D} {K : Nat → List D → Prop} (h : n = pre.length) (hn : pre.length ≤ 100000) (hy : y.width = 1) (hK : K (pre.length + 1) (pre.map rowT ++ [y])) : AppK (pre.map rowT) n [y] 1 K :=
  AppK_intro (n := pre.length + 1) (xs' := pre.map rowT ++ [y]) (by rw [h]; rfl) (by rw [h, List.take_of_length_le (by simp)]) (by omega) (by simpa using hy) hK
set_option maxHeartbeats 4000000 in
theorem c_impl_ChoicesOf0T (m : ModelV) (hm : m.ok) (r : Res) (hr : (isModelP m → r = .one (.tr (.own 28 1 ((choicesN m).map rowT)))) ∧ (¬ isModelP m → r = .one (.tr (.own 28 1 [])))) : Contract Try.prog 19 [.d m.dat] r := by
  refine contract_byR [14, 400000 + 39, 700000 + 28, 600000 + 32] hma hTa Try.func19 (by kernel_rfl) (by kernel_rfl) ?_
  have hm2 := hm
  obtain ⟨⟨hlen, hok⟩, ⟨hlen2, hok2⟩⟩ := hm2
  conv => whnf
  have e1 : (List.map OptV.dat m.options).length = m.options.length := List.length_map _
  have e2 : (List.map (lD NodeV.dat) m.rules).length = m.rules.length := List.length_map _
  refine CallK_tr (c_impl_IsModel _ hm) (fun hmod => ?_) (fun hmod => ?_) <;> conv => whnf
  rotate_left
  · rw [hr.2 hmod]; exact ⟨rfl, by omega⟩
  have h4 := hmod.1
  have hrb := rows_bound hmod
  refine NeedK_intro rfl ?_
  conv => whnf
  refine LoopK_introR [14, 400000 + 39, 700000 + 28, 600000 + 32] hma hTa [(1, .key 1), (2, .pl), (3, .tree 3), (23, .pl), (24, .pl), (25, .pl)] (fun i : Nat => ⟨[(1, .ae 1 0), (2, .nil), (3, .fv 3 (rowsN (m.options.take i)).length), (1000000 + 3, .fa ⟨28, 1, (rowsN (m.options.take i)).map rowT⟩), (23, .d (lD OptV.dat m.options)), (24, .d (iD (m.options.map OptV.dat).length)), (25, .d (iD i))], [(1, some ⟨27, 2, [m.dat]⟩), (3, none)], []⟩) (fun i => i ≤ m.options.length) (fun i => m.options.length - i) (by kernel_rfl) ?_ ?_
  · conv => whnf
    refine resRow [] [] rfl rfl (by decide) ?_
    conv => whnf
    refine NoRefK_intro (pureL_map row_pure _).noRef ?_
    conv => whnf
    exact ⟨0, by omega, rfl⟩
  · intro i hi
    conv => whnf
    refine brLt (fun h => ?_) (fun h => ?_) <;> conv => whnf
    · refine IxK_mapLt _ rfl (by omega) (fun o ho => ?_)
      conv => whnf
      have hil := get_lt ho
      have hrows := hrb i
      have h256 : 4 ^ i ≤ 256 := Nat.pow_le_pow_right (by omega) (show i ≤ 4 by omega)
      have hvl := (hmod.2.2.1 o (get_mem ho)).2.1
      have hsn := rowsN_snoc ho
      generalize hR : rowsN (m.options.take i) = rows at hrows hsn ⊢
      have e3 : (List.map (lD PickV.dat) rows).length = rows.length := List.length_map _
      have e4 : (List.map sD o.values).length = o.values.length := List.length_map _
      refine LoopK_introR [14, 400000 + 39, 700000 + 28, 600000 + 32] hma hTa [(1, .key 1), (2, .pl), (23, .pl), (24, .pl), (25, .pl), (5, .key 5), (6, .tree 6), (30, .fzt), (31, .pl), (32, .pl)] (fun j : Nat => ⟨[(1, .ae 1 0), (2, .nil), (23, .d (lD OptV.dat m.options)), (24, .d (iD (m.options.map OptV.dat).length)), (25, .d (iD i)), (5, .ae 5 0), (6, .fv 6 ((rows.take j).flatMap (extR o)).length), (1000000 + 6, .fa ⟨28, 1, ((rows.take j).flatMap (extR o)).map rowT⟩), (30, .d (lD (lD PickV.dat) rows)), (31, .d (iD rows.length)), (32, .d (iD j))], [(1, some ⟨27, 2, [m.dat]⟩), (5, some ⟨47, 2, [o.dat]⟩), (6, none)], []⟩) (fun j => j ≤ rows.length) (fun j => rows.length - j) (by kernel_rfl) ?_ ?_
      · conv => whnf
        refine ResK_same (pureL_nil).noRef ?_
        conv => whnf
        refine NeedK_intro (by simp) ?_
        conv => whnf
        refine ErK_intro (rows.map (lD PickV.dat)) (pureL_map row_pure _).clean (eraseL_mapTo row_erase _) ?_
        conv => whnf
        refine NoRefK_intro (pureL_nil).noRef ?_
        conv => whnf
        exact ⟨0, by omega, rfl⟩
      · intro j hj
        conv => whnf
        refine brLt (fun h2 => ?_) (fun h2 => ?_) <;> conv => whnf
        · refine IxK_mapLt _ rfl (by omega) (fun row hrow => ?_)
          conv => whnf
          have hjl := get_lt hrow
          have hrl := hrows.2 row (get_mem hrow)
          have hfs := flat_snoc (f := extR o) hrow
          have hfb := flat_bound (f := extR o) (b := 4) (l := rows.take j) (fun x _ => by rw [ext_len]; exact hvl)
          have hjt : (rows.take j).length ≤ rows.length := by simp; omega
          generalize hX : (rows.take j).flatMap (extR o) = next at hfs hfb ⊢
          refine LoopK_introR [14, 400000 + 39, 700000 + 28, 600000 + 32] hma hTa [(1, .key 1), (2, .pl), (23, .pl), (24, .pl), (25, .pl), (5, .key 5), (6, .tree 6), (30, .pl), (31, .pl), (32, .pl), (8, .pl), (37, .pl), (38, .pl), (39, .pl)] (fun k : Nat => ⟨[(1, .ae 1 0), (2, .nil), (23, .d (lD OptV.dat m.options)), (24, .d (iD (m.options.map OptV.dat).length)), (25, .d (iD i)), (5, .ae 5 0), (6, .fv 6 (next ++ (extR o row).take k).length), (1000000 + 6, .fa ⟨28, 1, (next ++ (extR o row).take k).map rowT⟩), (30, .d (lD (lD PickV.dat) rows)), (31, .d (iD rows.length)), (32, .d (iD j)), (8, .d (lD PickV.dat row)), (37, .d (lD sD o.values)), (38, .d (iD (o.values.map sD).length)), (39, .d (iD k))], [(1, some ⟨27, 2, [m.dat]⟩), (5, some ⟨47, 2, [o.dat]⟩), (6, none)], []⟩) (fun k => k ≤ o.values.length) (fun k => o.values.length - k) (by kernel_rfl) ?_ ?_
          · conv => whnf
            refine ResK_same (pureL_map row_pure _).noRef ?_
            conv => whnf
            refine NoRefK_intro (pureL_map row_pure _).noRef ?_
            conv => whnf
            exact ⟨0, by omega, by dsimp only; rw [List.take_zero, List.append_nil]; rfl⟩
          · intro k hk
            conv => whnf
            refine brLt (fun h3 => ?_) (fun h3 => ?_) <;> conv => whnf
            · refine IxK_mapLt _ rfl (by omega) (fun v hv => ?_)
              conv => whnf
              have hkl := get_lt hv
              have hex : (extR o row)[k]? = some (row ++ [(⟨o.name, v⟩ : PickV)]) := by simp [extR, hv]
              refine AppK_intro (n := row.length) (xs' := row.map PickV.dat) (by simp) (by simp) (by omega) (wd fun _ => rfl) ?_
              conv => whnf
              refine AppK_intro (n := row.length + 1) (xs' := (row ++ [(⟨o.name, v⟩ : PickV)]).map PickV.dat) rfl (app_one rfl) (by omega) (by simp [D.width, Ty.width]) ?_
              conv => whnf
              have hnl : (next ++ (extR o row).take k).length ≤ 2000 := by rw [List.length_append, List.length_take, ext_len]; omega
              have hns : next ++ (extR o row).take (k + 1) = (next ++ (extR o row).take k) ++ [row ++ [(⟨o.name, v⟩ : PickV)]] := by rw [take_snoc hex, List.append_assoc]
              have hnsl : (next ++ (extR o row).take (k + 1)).length = (next ++ (extR o row).take k).length + 1 := by rw [hns, List.length_append]; rfl
              refine NeedK_intro (by simp) ?_
              conv => whnf
              refine NeedK_intro (by simp) ?_
              conv => whnf
              refine NeedK_intro (by simp) ?_
              conv => whnf
              refine NeedK_intro okRow ?_
              conv => whnf
              refine apRow rfl (by omega) rfl ?_
              conv => whnf
              refine KeysK_intro (by kernel_rfl) ?_
              conv => whnf
              refine WrK_i64 (by omega) (by omega) ?_
              conv => whnf
              refine resRow (next ++ (extR o row).take k) (row ++ [(⟨o.name, v⟩ : PickV)]) rfl rfl (by decide) ?_
              conv => whnf
              refine NoRefK_intro (pureL_map row_pure _).noRef ?_
              conv => whnf
              exact ⟨k + 1, hkl, Nat.sub_lt_sub_left hkl (Nat.lt_succ_self k), by dsimp only; rw [hnsl, hns]; rfl⟩
            · have ek : k = o.values.length := by omega
              rw [List.take_of_length_le (by rw [ext_len]; omega), ← hfs]
              refine WrK_i64 (by omega) (by omega) ?_
              conv => whnf
              refine ResK_same (pureL_map row_pure _).noRef ?_
              conv => whnf
              refine NoRefK_intro (pureL_map row_pure _).noRef ?_
              conv => whnf
              exact ⟨j + 1, hjl, Nat.sub_lt_sub_left hjl (Nat.lt_succ_self j), rfl⟩
        · have ej : j = rows.length := by omega
          rw [List.take_of_length_le (by omega), ← hsn]
          refine WrK_i64 (by omega) (by omega) ?_
          conv => whnf
          refine ResK_same (pureL_map row_pure _).noRef ?_
          conv => whnf
          refine NoRefK_intro (pureL_map row_pure _).noRef ?_
          conv => whnf
          exact ⟨i + 1, hil, Nat.sub_lt_sub_left hil (Nat.lt_succ_self i), rfl⟩
    · have hro := rows_ok hm i
      have hrows := hrb i
      have h256 : 4 ^ i ≤ 256 := Nat.pow_le_pow_right (by omega) (show i ≤ 4 by omega)
      have et : m.options.take i = m.options := List.take_of_length_le (by omega)
      have hr1 := hr.1 hmod
      unfold choicesN at hr1
      rw [et] at hro hrows ⊢
      generalize hR : rowsN m.options = rows at hr1 hro hrows ⊢
      have e3 : (List.map rowT rows).length = rows.length := List.length_map _
      refine LoopK_introR [14, 400000 + 39, 700000 + 28, 600000 + 32] hma hTa [(1, .key 1), (2, .pl), (11, .tree 11), (60, .tree 60), (61, .pl), (62, .pl)] (fun j : Nat => ⟨[(1, .ae 1 0), (2, .nil), (11, .fv 11 ((rows.take j).filter (fitsB m.rules)).length), (1000000 + 11, .fa ⟨28, 1, ((rows.take j).filter (fitsB m.rules)).map rowT⟩), (60, .fv 60 rows.length), (1000000 + 60, .fa ⟨28, 1, List.replicate j D.jk ++ (rows.drop j).map rowT⟩), (61, .d (iD rows.length)), (62, .d (iD j))], [(1, some ⟨27, 2, [m.dat]⟩), (11, none), (60, none)], []⟩) (fun j => j ≤ rows.length) (fun j => rows.length - j) (by kernel_rfl) ?_ ?_
      · conv => whnf
        refine ResK_same (pureL_nil).noRef ?_
        conv => whnf
        refine ResK_same (pureL_map row_pure _).noRef ?_
        conv => whnf
        refine NoRefK_intro (pureL_nil).noRef ?_
        conv => whnf
        refine NoRefK_intro (pureL_map row_pure _).noRef ?_
        conv => whnf
        exact ⟨0, by omega, rfl⟩
      · intro j hj
        conv => whnf
        refine brLt (fun h2 => ?_) (fun h2 => ?_) <;> conv => whnf
        · have hjl : j < rows.length := by omega
          have hrow : rows[j]? = some rows[j] := List.getElem?_eq_getElem hjl
          have hd : (rows.drop j).map rowT = rowT rows[j] :: (rows.drop (j + 1)).map rowT := by rw [List.drop_eq_getElem_cons hjl]; rfl
          have hpl : (List.replicate j D.jk).length = j := by simp
          have hrp : List.replicate (j + 1) D.jk = List.replicate j D.jk ++ [D.jk] := List.replicate_succ' ..
          rw [hd]
          generalize rows[j] = row at hrow
          have fin : List.replicate (j + 1) D.jk ++ (rows.drop (j + 1)).map rowT = List.replicate j D.jk ++ D.jk :: (rows.drop (j + 1)).map rowT := by rw [hrp, List.append_assoc]; rfl
          have hnr : NoRefL (List.replicate j D.jk ++ D.jk :: (rows.drop (j + 1)).map rowT) := by rw [← fin]; exact noRefL_append2 (jk_noRef _) (pureL_map row_pure _).noRef
          have hjt : ((rows.take j).filter (fitsB m.rules)).length ≤ rows.length := Nat.le_trans (List.length_filter_le _ _) (by simp; omega)
          have hrl := hrows.2 row (get_mem hrow)
          have hyes := fun h => filter_y (f := fitsB m.rules) hrow h
          have hno := fun h => filter_n (f := fitsB m.rules) hrow h
          generalize (rows.take j).filter (fitsB m.rules) = pre at hjt hyes hno ⊢
          have rvA : ∀ (τ : Ab) (a b : Nat), RVL τ (List.replicate j D.jk ++ .ref a b :: (rows.drop (j + 1)).map rowT) (List.replicate j D.jk ++ D.jk :: (rows.drop (j + 1)).map rowT) [] := fun τ a b =>
            RVL.app (RVL.same (jk_noRef _)) (RVL.cons (x := .ref a b) (x' := .jk) rfl (RVs.one (.jk _)) (RVL.same (pureL_map row_pure _).noRef))
          refine IxA_intro j rfl (by omega) ?_
          conv => whnf
          refine getK_intro (get_mid hpl) ?_
          conv => whnf
          refine NeedK_intro (flat_plain (flatL_map pick_flatD _)) ?_
          conv => whnf
          refine setK_intro (by simp) (set_mid hpl).symm ?_
          conv => whnf
          refine LoopK2R [14, 400000 + 39, 700000 + 28, 600000 + 32] hma hTa [(1, .key 1), (2, .pl), (11, .tree 11), (60, .tree 60), (61, .pl), (62, .pl), (13, .key 13), (14, .pl), (67, .pl), (68, .pl), (69, .pl)] (fun (k : Nat) (b : Bool) => ⟨[(1, .ae 1 0), (2, .nil), (11, .fv 11 pre.length), (1000000 + 11, .fa ⟨28, 1, pre.map rowT⟩), (60, .fv 60 rows.length), (1000000 + 60, .fa ⟨28, 1, List.replicate j D.jk ++ D.jk :: (rows.drop (j + 1)).map rowT⟩), (61, .d (iD rows.length)), (62, .d (iD j)), (13, .av 13 (row.map PickV.dat).length), (14, .d (bD b)), (67, .d (lD (lD NodeV.dat) m.rules)), (68, .d (iD (m.rules.map (lD NodeV.dat)).length)), (69, .d (iD k))], [(1, some ⟨27, 2, [m.dat]⟩), (11, none), (60, none), (13, some ⟨42, 2, row.map PickV.dat⟩)], []⟩) (fun k b => k ≤ m.rules.length ∧ b = fitsB (m.rules.take k) row) (fun k _ => m.rules.length - k) (by kernel_rfl) ?_ ?_
          · conv => whnf
            refine ResK_same (pureL_map row_pure _).noRef ?_
            conv => whnf
            refine ResK_intro (U := []) (xs' := List.replicate j D.jk ++ D.jk :: (rows.drop (j + 1)).map rowT) (rvA _ _ _) List.nodup_nil (by simp) ?_
            conv => whnf
            refine NoRefK_intro (pureL_map row_pure _).noRef ?_
            conv => whnf
            refine NoRefK_intro hnr ?_
            conv => whnf
            exact ⟨0, true, ⟨by omega, by simp [fitsB]⟩, rfl⟩
          · intro k b ⟨hk, hb⟩
            conv => whnf
            refine brLt (fun h3 => ?_) (fun h3 => ?_) <;> conv => whnf
            · refine IxK_mapLt _ rfl (by omega) (fun ru hru => ?_)
              conv => whnf
              have hkl := get_lt hru
              have hsn : fitsB (m.rules.take (k + 1)) row = (fitsB (m.rules.take k) row && evalN ru row) := all_snoc hru
              refine brB (fun h5 => ?_) (fun h5 => ?_) <;> conv => whnf
              · refine takeK_full rfl ?_
                conv => whnf
                refine CallK_intro (c_impl_Holds _ (hok2 _ (get_mem hru)) row ⟨by omega, hro row (get_mem hrow)⟩) ?_
                conv => whnf
                refine WrK_i64 (by omega) (by omega) ?_
                conv => whnf
                refine ResK_same (pureL_map row_pure _).noRef ?_
                conv => whnf
                refine ResK_same hnr ?_
                conv => whnf
                refine NoRefK_intro (pureL_map row_pure _).noRef ?_
                conv => whnf
                refine NoRefK_intro hnr ?_
                conv => whnf
                refine ⟨(k + 1, _), ⟨hkl, ?_⟩, Nat.sub_lt_sub_left hkl (Nat.lt_succ_self k), rfl⟩
                dsimp only
                rw [hsn, ← hb, h5, Bool.true_and]
                exact (tr_bool ⟨fun h6 => ⟨hmod.2.2.2.1 _ (get_mem hru), h6⟩, fun h6 => h6.2⟩).symm
              · refine WrK_i64 (by omega) (by omega) ?_
                conv => whnf
                refine ResK_same (pureL_map row_pure _).noRef ?_
                conv => whnf
                refine ResK_same hnr ?_
                conv => whnf
                refine NoRefK_intro (pureL_map row_pure _).noRef ?_
                conv => whnf
                refine NoRefK_intro hnr ?_
                conv => whnf
                exact ⟨(k + 1, false), ⟨hkl, by dsimp only; rw [hsn, ← hb, h5, Bool.false_and]⟩, Nat.sub_lt_sub_left hkl (Nat.lt_succ_self k), rfl⟩
            · rw [List.take_of_length_le (by omega)] at hb
              refine brB (fun h5 => ?_) (fun h5 => ?_) <;> conv => whnf
              · have hfy := hyes (by rw [← hb, h5])
                have hfl : ((rows.take (j + 1)).filter (fitsB m.rules)).length = pre.length + 1 := by rw [hfy]; simp
                refine NeedK_intro (by simp) ?_
                conv => whnf
                refine NeedK_intro (by simp) ?_
                conv => whnf
                refine NeedK_intro (by simp) ?_
                conv => whnf
                refine NeedK_intro okRow ?_
                conv => whnf
                refine apRow rfl (by omega) rfl ?_
                conv => whnf
                refine WrK_i64 (by omega) (by omega) ?_
                conv => whnf
                refine resRow pre row rfl rfl (by decide) ?_
                conv => whnf
                refine ResK_same hnr ?_
                conv => whnf
                refine NoRefK_intro (pureL_map row_pure _).noRef ?_
                conv => whnf
                refine NoRefK_intro hnr ?_
                conv => whnf
                exact ⟨j + 1, hjl, Nat.sub_lt_sub_left hjl (Nat.lt_succ_self j), by dsimp only; rw [hfl, hfy, fin]; rfl⟩
              · have hfn := hno (by rw [← hb, h5])
                refine WrK_i64 (by omega) (by omega) ?_
                conv => whnf
                refine ResK_same (pureL_map row_pure _).noRef ?_
                conv => whnf
                refine ResK_same hnr ?_
                conv => whnf
                refine NoRefK_intro (pureL_map row_pure _).noRef ?_
                conv => whnf
                refine NoRefK_intro hnr ?_
                conv => whnf
                exact ⟨j + 1, hjl, Nat.sub_lt_sub_left hjl (Nat.lt_succ_self j), by dsimp only; rw [hfn, fin]; rfl⟩
        · rw [List.take_of_length_le (by omega), hr1]
          exact ⟨rfl, rfl, by simp, rfl, pureL_map row_pure _⟩
noncomputable def choicesV (m : ModelV) : List (List PickV) := ifP (isModelP m) (choicesN m) []
theorem c_impl_ChoicesOfT (m : ModelV) (hm : m.ok) : Contract Try.prog 19 [.d m.dat] (.one (.tr (.own 28 1 ((choicesV m).map rowT)))) := by
  refine c_impl_ChoicesOf0T m hm _ ⟨fun h => ?_, fun h => ?_⟩
  · rw [show choicesV m = choicesN m from ifP_t h]
  · rw [show choicesV m = [] from ifP_f h]; rfl


end Go.DL
