/- Contracts of functions of the program, at this seat: what each call returns, by its arguments as data; each states its own conditions. -/
import Derived.Test.YtamhoddnnifbiaaUA
namespace Go.DL
set_option maxRecDepth 100000
set_option maxHeartbeats 2000000
set_option linter.unusedSimpArgs false
set_option linter.unusedVariables false
open Go.RowKit Go.Proofs Go.Proofs.Ytamhoddnnifbiaa

set_option maxHeartbeats 4000000 in
theorem c_impl_inForceT (lines : List LineV) (hl : okL LineV.ok lines) (hn : lines.length ≤ 100) (day : Int) (c : List PickV) (hc : okL PickV.ok c) : Contract Try.prog 70 [.d (lD LineV.dat lines), .d (iD day), .d (lD PickV.dat c)] (.one (.tr (.own 107 6 ((activeN day c lines).map LineV.trd)))) := by
  refine contract_byR [400000 + 45, 600000 + 77] hma hTa Try.func70 (by kernel_rfl) (by kernel_rfl) ?_
  obtain ⟨hlen, hok⟩ := hl
  conv => whnf
  have e2 : (List.map LineV.dat lines).length = lines.length := List.length_map _
  refine LoopK_introR [400000 + 45, 600000 + 77] hma hTa [(1, .pl), (2, .pl), (7, .tree 7), (11, .pl), (12, .pl), (13, .pl)] (fun i : Nat => ⟨[(1, .d (iD day)), (2, .d (lD PickV.dat c)), (7, .fv 7 (activeN day c (lines.take i)).length), (1000000 + 7, .fa ⟨107, 6, (activeN day c (lines.take i)).map LineV.trd⟩), (11, .d (lD LineV.dat lines)), (12, .d (iD (lines.map LineV.dat).length)), (13, .d (iD i))], [(7, none)], []⟩) (fun i => i ≤ lines.length) (fun i => lines.length - i) (by kernel_rfl) ?_ ?_
  · conv => whnf
    refine ResK_same (pureL_nil).noRef ?_
    conv => whnf
    refine NoRefK_intro (pureL_nil).noRef ?_
    conv => whnf
    exact ⟨0, by omega, rfl⟩
  · intro i hi
    conv => whnf
    refine brLt (fun h => ?_) (fun h => ?_) <;> conv => whnf
    · refine IxK_mapLt _ rfl (by omega) (fun x hx => ?_)
      conv => whnf
      have hil := get_lt hx
      have hxo := hok _ (get_mem hx)
      obtain ⟨k0, k1, k2, k3, k4, k5⟩ := hxo
      have hno : ¬ onP day c x → activeN day c (lines.take (i + 1)) = activeN day c (lines.take i) := fun hn => filter_n (f := onB day c) hx (tr_f hn)
      have hyes : onP day c x → activeN day c (lines.take (i + 1)) = activeN day c (lines.take i) ++ [x] := fun hp => filter_y (f := onB day c) hx (tr_t hp)
      have hal := active_len day c (lines.take i)
      have htl : (lines.take i).length ≤ lines.length := by simp; omega
      generalize activeN day c (lines.take i) = pre at hno hyes hal ⊢
      have skip : ¬ onP day c x → ∀ σ : St, σ = ⟨[(1, .d (iD day)), (2, .d (lD PickV.dat c)), (7, .fv 7 pre.length), (1000000 + 7, .fa ⟨107, 6, pre.map LineV.trd⟩), (11, .d (lD LineV.dat lines)), (12, .d (iD (lines.map LineV.dat).length)), (13, .d (iD ((i : Int) + 1)))], [(7, none)], []⟩ → ∃ a : Nat, a ≤ lines.length ∧ lines.length - a < lines.length - i ∧ σ = ⟨[(1, .d (iD day)), (2, .d (lD PickV.dat c)), (7, .fv 7 (activeN day c (lines.take a)).length), (1000000 + 7, .fa ⟨107, 6, (activeN day c (lines.take a)).map LineV.trd⟩), (11, .d (lD LineV.dat lines)), (12, .d (iD (lines.map LineV.dat).length)), (13, .d (iD a))], [(7, none)], []⟩ := fun hn σ hσ =>
        ⟨i + 1, hil, Nat.sub_lt_sub_left hil (Nat.lt_succ_self i), by rw [hσ, hno hn]; rfl⟩
      refine brLe (fun h1 => ?_) (fun h1 => ?_) <;> conv => whnf
      rotate_left
      · refine WrK_i64 (by omega) (by omega) ?_
        conv => whnf
        refine ResK_same (pureL_map trd_pure _).noRef ?_
        conv => whnf
        refine NoRefK_intro (pureL_map trd_pure _).noRef ?_
        conv => whnf
        exact skip (fun hp => by have := hp.1; omega) _ rfl
      refine brLe (fun h2 => ?_) (fun h2 => ?_) <;> conv => whnf
      rotate_left
      · refine WrK_i64 (by omega) (by omega) ?_
        conv => whnf
        refine ResK_same (pureL_map trd_pure _).noRef ?_
        conv => whnf
        refine NoRefK_intro (pureL_map trd_pure _).noRef ?_
        conv => whnf
        exact skip (fun hp => by have := hp.2.1; omega) _ rfl
      refine CallK_tr (c_impl_Holds _ k5 c hc) (fun h3 => ?_) (fun h3 => ?_) <;> conv => whnf
      rotate_left
      · refine WrK_i64 (by omega) (by omega) ?_
        conv => whnf
        refine ResK_same (pureL_map trd_pure _).noRef ?_
        conv => whnf
        refine NoRefK_intro (pureL_map trd_pure _).noRef ?_
        conv => whnf
        exact skip (fun hp => h3 hp.2.2) _ rfl
      refine CallK_intro (c_impl_copyLineT x (by have := h3.1.1; omega)) ?_
      conv => whnf
      refine NeedK_intro (trd_ok x) ?_
      conv => whnf
      refine NeedK_intro (by simp) ?_
      conv => whnf
      refine NeedK_intro (by simp) ?_
      conv => whnf
      refine NeedK_intro okLine ?_
      conv => whnf
      refine apLine rfl (by omega) rfl ?_
      conv => whnf
      refine WrK_i64 (by omega) (by omega) ?_
      conv => whnf
      refine resLine pre x rfl (by decide) ?_
      conv => whnf
      refine NoRefK_intro (pureL_map trd_pure _).noRef ?_
      conv => whnf
      exact ⟨i + 1, hil, Nat.sub_lt_sub_left hil (Nat.lt_succ_self i), by dsimp only; rw [hyes ⟨h1, h2, h3⟩, List.length_append]; rfl⟩
    · have ei : lines.take i = lines := List.take_of_length_le (by omega)
      rw [ei]
      exact ⟨rfl, rfl, by simp, rfl, pureL_map trd_pure _⟩

noncomputable def linesV (cat : List ItemV) (lines : List LineV) (p : ByteArray) (day : Int) (c : List PickV) : List LineV := ifP (isBillsP cat lines) (linesN day c p lines) []
theorem c_impl_LinesOf_t (cat : List ItemV) (hc : okL ItemV.ok cat) (lines : List LineV) (hl : okL LineV.ok lines) (p : ByteArray) (day : Int) (c : List PickV) (hcc : okL PickV.ok c) (hB : isBillsP cat lines) : Contract Try.prog 25 [.d (lD ItemV.dat cat), .d (lD LineV.dat lines), .d (sD p), .d (iD day), .d (lD PickV.dat c)] (.one (.tr (.own 107 6 ((linesN day c p lines).map LineV.trd)))) := by
  refine contract_byR [400000 + 45, 400000 + 107, 500000 + 107, 600000 + 70] hma hTa Try.func25 (by kernel_rfl) (by kernel_rfl) ?_
  conv => whnf
  refine CallK_tr (c_impl_IsBills _ hc _ hl) (fun _ => ?_) (fun h => absurd hB h)
  conv => whnf
  have hlen := hB.2.1
  refine CallK_intro (c_impl_inForceT _ hl (by omega) _ _ hcc) ?_
  conv => whnf
  refine NeedK_intro (pureL_map trd_pure _).clean ?_
  conv => whnf
  have hal := active_len day c lines
  have e0 : linesN day c p lines = keepN (fun x => x.parent = p) (activeN day c lines) := (keep_keep (q := onP day c) (fun x => Iff.rfl) lines).symm
  rw [e0]
  generalize activeN day c lines = act at hal ⊢
  have e2 : (List.map LineV.trd act).length = act.length := List.length_map _
  refine LoopK_introR [400000 + 45, 400000 + 107, 500000 + 107, 600000 + 70] hma hTa [(2, .pl), (11, .tree 11), (23, .tree 23), (24, .pl), (25, .pl)] (fun i : Nat => ⟨[(2, .d (sD p)), (11, .fv 11 (keepN (fun x : LineV => x.parent = p) (act.take i)).length), (1000000 + 11, .fa ⟨107, 6, (keepN (fun x : LineV => x.parent = p) (act.take i)).map LineV.trd⟩), (23, .fv 23 (act.map LineV.trd).length), (1000000 + 23, .fa ⟨107, 6, (act.take i).map LineV.jkd ++ (act.drop i).map LineV.trd⟩), (24, .d (iD (act.map LineV.trd).length)), (25, .d (iD i))], [(11, none), (23, none)], []⟩) (fun i => i ≤ act.length) (fun i => act.length - i) (by kernel_rfl) ?_ ?_
  · conv => whnf
    refine ResK_same (pureL_nil).noRef ?_
    conv => whnf
    refine ResK_same (pureL_map trd_pure _).noRef ?_
    conv => whnf
    refine NoRefK_intro (pureL_nil).noRef ?_
    conv => whnf
    refine NoRefK_intro (pureL_map trd_pure _).noRef ?_
    conv => whnf
    exact ⟨0, by omega, rfl⟩
  · intro i hi
    conv => whnf
    refine brLt (fun h => ?_) (fun h => ?_) <;> conv => whnf
    · have hil : i < act.length := by omega
      have hx : act[i]? = some act[i] := List.getElem?_eq_getElem hil
      have hd : (act.drop i).map LineV.trd = LineV.trd (act[i]) :: (act.drop (i + 1)).map LineV.trd := by rw [List.drop_eq_getElem_cons hil]; rfl
      have hpl : ((act.take i).map LineV.jkd).length = i := by rw [List.length_map, List.length_take]; omega
      have hkl := keep_len_take (fun x : LineV => x.parent = p) act i
      have htk : act.take (i + 1) = act.take i ++ [act[i]] := take_snoc hx
      have hy := fun h1 => keep_y (p := fun x : LineV => x.parent = p) hx h1
      have hn := fun h1 => keep_n (p := fun x : LineV => x.parent = p) hx h1
      rw [hd]
      generalize act[i] = x at htk hy hn hd
      have fin : (act.take (i + 1)).map LineV.jkd ++ (act.drop (i + 1)).map LineV.trd = (act.take i).map LineV.jkd ++ x.jkd :: (act.drop (i + 1)).map LineV.trd := by rw [htk]; simp
      have hnr : NoRefL ((act.take i).map LineV.jkd ++ x.jkd :: (act.drop (i + 1)).map LineV.trd) := by
        rw [← fin]; exact noRefL_append (jkd_noRef _) (pureL_map trd_pure _).noRef
      refine IxA_intro i rfl (by omega) ?_
      conv => whnf
      refine getK_intro (get_mid hpl) ?_
      conv => whnf
      refine NeedK_intro (flatL_map node_flatD _).pure.noRef ?_
      conv => whnf
      refine setK_intro (by rw [List.length_append, List.length_cons]; omega) (set_mid hpl).symm ?_
      conv => whnf
      have rvA : ∀ (τ : Ab) (m : Nat), RVL τ ((act.take i).map LineV.jkd ++ .agg [sD x.parent, sD x.part, iD x.quantity, iD x.start, iD x.stop, .ref 28 m] :: (act.drop (i + 1)).map LineV.trd) ((act.take i).map LineV.jkd ++ x.jkd :: (act.drop (i + 1)).map LineV.trd) [] := fun τ m =>
        RVL.app (RVL.same (jkd_noRef _)) (RVL.cons (x := .agg [sD x.parent, sD x.part, iD x.quantity, iD x.start, iD x.stop, .ref 28 m]) (x' := x.jkd) rfl (rvJk x) (RVL.same (pureL_map trd_pure _).noRef))
      refine brStr (fun h1 => ?_) (fun h1 => ?_) <;> conv => whnf
      · refine NeedK_intro (by simp) ?_
        conv => whnf
        refine NeedK_intro (by simp) ?_
        conv => whnf
        refine NeedK_intro okLine ?_
        conv => whnf
        refine apLine rfl (by omega) rfl ?_
        conv => whnf
        refine WrK_i64 (by omega) (by omega) ?_
        conv => whnf
        refine resLine (keepN (fun x : LineV => x.parent = p) (act.take i)) x rfl (by decide) ?_
        conv => whnf
        refine ResK_intro (U := []) (xs' := (act.take i).map LineV.jkd ++ x.jkd :: (act.drop (i + 1)).map LineV.trd) (rvA _ _) List.nodup_nil (by simp) ?_
        conv => whnf
        refine NoRefK_intro (pureL_map trd_pure _).noRef ?_
        conv => whnf
        refine NoRefK_intro hnr ?_
        conv => whnf
        exact ⟨i + 1, hil, Nat.sub_lt_sub_left hil (Nat.lt_succ_self i), by dsimp only; rw [hy h1, List.length_append, fin]; rfl⟩
      · refine WrK_i64 (by omega) (by omega) ?_
        conv => whnf
        refine ResK_same (pureL_map trd_pure _).noRef ?_
        conv => whnf
        refine ResK_intro (U := []) (xs' := (act.take i).map LineV.jkd ++ x.jkd :: (act.drop (i + 1)).map LineV.trd) (rvA _ _) List.nodup_nil (by simp) ?_
        conv => whnf
        refine NoRefK_intro (pureL_map trd_pure _).noRef ?_
        conv => whnf
        refine NoRefK_intro hnr ?_
        conv => whnf
        exact ⟨i + 1, hil, Nat.sub_lt_sub_left hil (Nat.lt_succ_self i), by dsimp only; rw [hn h1, fin]; rfl⟩
    · rw [List.take_of_length_le (l := act) (by omega)]
      exact ⟨rfl, rfl, by simp, rfl, pureL_map trd_pure _⟩
theorem c_impl_LinesOfT (cat : List ItemV) (hc : okL ItemV.ok cat) (lines : List LineV) (hl : okL LineV.ok lines) (p : ByteArray) (day : Int) (c : List PickV) (hcc : okL PickV.ok c) : Contract Try.prog 25 [.d (lD ItemV.dat cat), .d (lD LineV.dat lines), .d (sD p), .d (iD day), .d (lD PickV.dat c)] (.one (.tr (.own 107 6 ((linesV cat lines p day c).map LineV.trd)))) := by
  by_cases hB : isBillsP cat lines
  · rw [show linesV cat lines p day c = linesN day c p lines from ifP_t hB]
    exact c_impl_LinesOf_t cat hc lines hl p day c hcc hB
  · rw [show linesV cat lines p day c = [] from ifP_f hB]
    refine contract_byR [400000 + 45] hma hTa Try.func25 (by kernel_rfl) (by kernel_rfl) ?_
    conv => whnf
    refine CallK_tr (c_impl_IsBills _ hc _ hl) (fun h => absurd h hB) (fun _ => ?_)
    conv => whnf
    exact ⟨rfl, rfl, rfl, rfl, pureL_nil⟩

theorem c_spec_LinesOfV (cat : List ItemV) (hc : okL ItemV.ok cat) (lines : List LineV) (hl : okL LineV.ok lines) (p : ByteArray) (day : Int) (c : List PickV) (hcc : okL PickV.ok c) : Contract Try.prog 21 [.d (lD ItemV.dat cat), .d (lD LineV.dat lines), .d (sD p), .d (iD day), .d (lD PickV.dat c)] (.one (.own ⟨107, 6, (linesV cat lines p day c).map LineV.dat⟩)) := by
  by_cases hB : isBillsP cat lines
  · rw [show linesV cat lines p day c = linesN day c p lines from ifP_t hB]
    have hlen := hB.2.1
    refine contract_by hma hTa Try.func21 (by kernel_rfl) (by kernel_rfl) ?_
    conv => whnf
    have e2 : (List.map LineV.dat lines).length = lines.length := List.length_map _
    refine LoopK_intro hma hTa [(0, .pl), (1, .pl), (2, .pl), (3, .pl), (4, .pl), (11, .key 11), (12, .pl)] (fun i : Nat => ⟨[(0, .d (lD ItemV.dat cat)), (1, .d (lD LineV.dat lines)), (2, .d (sD p)), (3, .d (iD day)), (4, .d (lD PickV.dat c)), (11, .av 11 (linesN day c p (lines.take i)).length), (12, .d (iD i))], [(11, some ⟨107, 6, (linesN day c p (lines.take i)).map LineV.dat⟩)], []⟩) (fun i => i ≤ lines.length) (fun i => lines.length - i) (by kernel_rfl) ?_ ?_
    · conv => whnf
      exact ⟨0, by omega, rfl⟩
    · intro i hi
      have hkl : (linesN day c p (lines.take i)).length ≤ lines.length := keep_len_take _ _ _
      conv => whnf
      refine brLt (fun h => ?_) (fun h => ?_) <;> conv => whnf
      rotate_left
      · rw [List.take_of_length_le (l := lines) (by omega)]
        exact ⟨rfl, rfl, by simp, rfl⟩
      refine CallK_tr (c_spec_IsBills _ hc _ hl) (fun _ => ?_) (fun h => absurd hB h)
      conv => whnf
      refine IxK_mapLt _ rfl (by omega) (fun x hx => ?_)
      conv => whnf
      have hil := get_lt hx
      have hxo := hl.2 x (get_mem hx)
      have hxc := cond_of hB (get_mem hx)
      refine brStr (fun h1 => ?_) (fun h1 => ?_) <;> conv => whnf
      rotate_left
      · refine WrK_i64 (by omega) (by omega) ?_
        conv => whnf
        exact ⟨i + 1, hil, Nat.sub_lt_sub_left hil (Nat.lt_succ_self i), by dsimp only; rw [show linesN day c p (lines.take (i + 1)) = linesN day c p (lines.take i) from keep_n hx (fun h => h1 h.1)]; rfl⟩
      refine IxK_map i rfl hx ?_
      conv => whnf
      refine CallK_tr (c_spec_l9On x hxo hxc day c hcc) (fun h2 => ?_) (fun h2 => ?_) <;> conv => whnf
      rotate_left
      · refine WrK_i64 (by omega) (by omega) ?_
        conv => whnf
        exact ⟨i + 1, hil, Nat.sub_lt_sub_left hil (Nat.lt_succ_self i), by dsimp only; rw [show linesN day c p (lines.take (i + 1)) = linesN day c p (lines.take i) from keep_n hx (fun h => h2 h.2)]; rfl⟩
      have hy : linesN day c p (lines.take (i + 1)) = linesN day c p (lines.take i) ++ [x] := keep_y hx ⟨h1, h2⟩
      refine IxK_map i rfl hx ?_
      conv => whnf
      refine CallK_intro (c_spec_l9Line x hxo hxc) ?_
      conv => whnf
      refine AppK_intro (n := (linesN day c p (lines.take i)).length + 1) (xs' := (linesN day c p (lines.take (i + 1))).map LineV.dat) rfl (by rw [hy]; exact app_one rfl) (by omega) (by simp [LineV.dat, D.width, Ty.width]) ?_
      conv => whnf
      refine WrK_i64 (by omega) (by omega) ?_
      conv => whnf
      exact ⟨i + 1, hil, Nat.sub_lt_sub_left hil (Nat.lt_succ_self i), by dsimp only; rw [hy, List.length_append]; rfl⟩
  · rw [show linesV cat lines p day c = [] from ifP_f hB]
    refine contract_by hma hTa Try.func21 (by kernel_rfl) (by kernel_rfl) ?_
    conv => whnf
    refine LoopK_intro hma hTa [(0, .pl), (1, .pl), (2, .pl), (3, .pl), (4, .pl), (11, .key 11), (12, .pl)] (fun _ : Unit => ⟨[(0, .d (lD ItemV.dat cat)), (1, .d (lD LineV.dat lines)), (2, .d (sD p)), (3, .d (iD day)), (4, .d (lD PickV.dat c)), (11, .av 11 0), (12, .d (iD 0))], [(11, some ⟨107, 6, []⟩)], []⟩) (fun _ => True) (fun _ => 0) (by kernel_rfl) ?_ ?_
    · conv => whnf
      exact ⟨(), trivial, rfl⟩
    · intro _ _
      conv => whnf
      refine brLt (fun h => ?_) (fun h => ?_) <;> conv => whnf
      · refine CallK_tr (c_spec_IsBills _ hc _ hl) (fun h => absurd h hB) (fun _ => ?_)
        conv => whnf
        exact ⟨rfl, rfl, rfl, rfl⟩
      · exact ⟨rfl, rfl, rfl, rfl⟩

end Go.DL
