/- Contracts of functions of the program, at this seat: what each call returns, by its arguments as data; each states its own conditions. -/
import Derived.Test.YtamhoddnnifbiaaUC
namespace Go.DL
set_option maxRecDepth 100000
set_option maxHeartbeats 2000000
set_option linter.unusedSimpArgs false
set_option linter.unusedVariables false
open Go.RowKit Go.Proofs Go.Proofs.Ytamhoddnnifbiaa

noncomputable def tidyV (cat : List ItemV) (lines : List LineV) : List LineV := ifP (isBillsP cat lines) (tidyN lines) []
set_option maxHeartbeats 4000000 in
theorem c_impl_TidyLines_t (cat : List ItemV) (hc : okL ItemV.ok cat) (lines : List LineV) (hl : okL LineV.ok lines) (hB : isBillsP cat lines) : Contract Try.prog 36 [.d (lD ItemV.dat cat), .d (lD LineV.dat lines)] (.one (.tr (.own 107 6 ((tidyN lines).map LineV.trd)))) := by
  refine contract_byR [8, 400000 + 45, 500000 + 107, 600000 + 77, 600000 + 79] hma hTa Try.func36 (by kernel_rfl) (by kernel_rfl) ?_
  conv => whnf
  refine CallK_tr (c_impl_IsBills _ hc _ hl) (fun _ => ?_) (fun h => absurd hB h)
  conv => whnf
  have hlen := hB.2.1
  have e2 : (List.map LineV.dat lines).length = lines.length := List.length_map _
  refine LoopK_introR [8, 400000 + 45, 500000 + 107, 600000 + 77, 600000 + 79] hma hTa [(5, .tree 5), (15, .pl), (16, .pl), (17, .pl)] (fun i : Nat => ⟨[(5, .fv 5 (tidyN (lines.take i)).length), (1000000 + 5, .fa ⟨107, 6, (tidyN (lines.take i)).map LineV.trd⟩), (15, .d (lD LineV.dat lines)), (16, .d (iD (lines.map LineV.dat).length)), (17, .d (iD i))], [(5, none)], []⟩) (fun i => i ≤ lines.length) (fun i => lines.length - i) (by kernel_rfl) ?_ ?_
  · conv => whnf
    refine ResK_same (pureL_nil).noRef ?_
    conv => whnf
    refine NoRefK_intro (pureL_nil).noRef ?_
    conv => whnf
    exact ⟨0, by omega, rfl⟩
  · intro i hi
    conv => whnf
    refine brLt (fun h => ?_) (fun h => ?_) <;> conv => whnf
    · refine IxK_mapLt _ rfl (by omega) (fun l hli => ?_)
      conv => whnf
      have hil := get_lt hli
      have hlo := hl.2 l (get_mem hli)
      have hlc := cond_of hB (get_mem hli)
      have hll := hB.2.2.1 l (get_mem hli)
      have hsn := tidy_snoc hli
      have htl : (tidyN (lines.take i)).length ≤ lines.length := Nat.le_trans (tidy_len _) (by simp; omega)
      have hQ := tidyQ (cat := cat) (lines := lines.take i) ⟨by simp; omega, fun x hx => hl.2 x (List.mem_of_mem_take hx)⟩ fun x hx => hB.2.2.1 x (List.mem_of_mem_take hx)
      generalize tidyN (lines.take i) = out at hsn htl hQ ⊢
      rcases List.eq_nil_or_concat out with rfl | ⟨o, p, rfl⟩
      · refine brLt (fun h2 => absurd h2 (by simp)) (fun h2 => ?_)
        conv => whnf
        refine KeysK_intro (by kernel_rfl) ?_
        conv => whnf
        refine CallK_intro (c_impl_copyLineT l (by have := hlc.1; omega)) ?_
        conv => whnf
        refine NeedK_intro (trd_ok l) ?_
        conv => whnf
        refine NeedK_intro (by simp) ?_
        conv => whnf
        refine NeedK_intro (by simp) ?_
        conv => whnf
        refine NeedK_intro okLine ?_
        conv => whnf
        refine apLine (pre := []) rfl (by simp) rfl ?_
        conv => whnf
        refine WrK_i64 (by omega) (by omega) ?_
        conv => whnf
        refine resLine [] l rfl (by decide) ?_
        conv => whnf
        refine NoRefK_intro (pureL_map trd_pure _).noRef ?_
        conv => whnf
        exact ⟨i + 1, hil, Nat.sub_lt_sub_left hil (Nat.lt_succ_self i), by dsimp only; rw [hsn, stepT_nil]; rfl⟩
      rw [List.concat_eq_append] at hsn htl hQ ⊢
      have hgp : (o ++ [p])[o.length]? = some p := by simp
      obtain ⟨hpo, hpl⟩ := hQ p (by simp)
      have hpe : p.stop ≤ 999 := hpl.2.2.2.2.2.1.2
      have hps : -9223372036854775808 ≤ p.stop := hpo.2.2.2.2.1.1
      have hol : (o ++ [p]).length = o.length + 1 := by simp
      have hml : (o.map LineV.trd).length = o.length := List.length_map _
      have hdl : (o ++ [p]).dropLast = o := by simp
      have hgl : (o ++ [p])[(o ++ [p]).length - 1]? = some p := by simp
      rw [List.map_append, hol]
      refine brLt (fun h2 => ?_) (fun h2 => by exfalso; omega)
      conv => whnf
      refine WrK_i64 (by omega) (by omega) ?_
      conv => whnf
      refine IxA_intro o.length (by omega) (by omega) ?_
      conv => whnf
      refine getK_intro (get_mid hml) ?_
      conv => whnf
      refine NeedK_intro (flatL_map node_flatD _).pure.noRef ?_
      conv => whnf
      refine setK_intro (by simp) (set_mid hml).symm ?_
      conv => whnf
      refine NeedK_intro (by simp) ?_
      conv => whnf
      refine ErK_intro (p.when.map NodeV.dat) (flatL_map node_flatD _).pure.clean (eraseL_flat (flatL_map node_flatD _)) ?_
      conv => whnf
      refine CallK_tr (c_impl_goesOn p l hpo hlo (by omega)) (fun g => ?_) (fun g => ?_) <;> conv => whnf
      · have hgo := stepT_go hgl g
        rw [hdl] at hgo
        refine KeysK_intro (by kernel_rfl) ?_
        conv => whnf
        refine WrK_i64 (by omega) (by omega) ?_
        conv => whnf
        refine IxA_intro o.length (by omega) (by omega) ?_
        conv => whnf
        refine getK_intro (get_mid hml) ?_
        conv => whnf
        refine setK_intro (by simp) (set_mid hml).symm ?_
        conv => whnf
        refine WrK_i64 (by omega) (by omega) ?_
        conv => whnf
        refine resLine o { p with stop := l.stop } rfl (by decide) ?_
        conv => whnf
        refine NoRefK_intro (pureL_map trd_pure _).noRef ?_
        conv => whnf
        have hln : (o ++ [({ p with stop := l.stop } : LineV)]).length = o.length + 1 := by simp
        exact ⟨i + 1, hil, Nat.sub_lt_sub_left hil (Nat.lt_succ_self i), by dsimp only; rw [hsn, hgo, hln]; rfl⟩
      · have hno := stepT_no hgl g
        refine KeysK_intro (by kernel_rfl) ?_
        conv => whnf
        refine CallK_intro (c_impl_copyLineT l (by have := hlc.1; omega)) ?_
        conv => whnf
        refine NeedK_intro (trd_ok l) ?_
        conv => whnf
        refine NeedK_intro (by simp) ?_
        conv => whnf
        refine NeedK_intro (by simp) ?_
        conv => whnf
        refine NeedK_intro okLine ?_
        conv => whnf
        refine AppK_intro (n := o.length + 1 + 1) rfl (app_mid (by simp)) (by omega) (fun y hy => by rw [List.mem_singleton.1 hy]; rfl) ?_
        conv => whnf
        refine WrK_i64 (by omega) (by omega) ?_
        conv => whnf
        refine ResK_intro (U := [30, 204305]) (xs' := (o.map LineV.trd ++ [p.trd]) ++ [l.trd]) (RVL.app (RVL.app (RVL.same (pureL_map trd_pure _).noRef) (RVL.cons (x := .agg [sD p.parent, sD p.part, iD p.quantity, iD p.start, iD p.stop, .ref 30 (p.when.map NodeV.dat).length]) (x' := p.trd) (r := []) (r' := []) rfl (rvLine p rfl) (RVL.same (xs := []) (fun d hd => by simp [fl] at hd)))) (RVL.cons (x := .agg [sD l.parent, sD l.part, iD l.quantity, iD l.start, iD l.stop, .ref 204305 (l.when.map NodeV.dat).length]) (x' := l.trd) (r := []) (r' := []) rfl (rvLine l rfl) (RVL.same (xs := []) (fun d hd => by simp [fl] at hd)))) (by decide) (by decide) ?_
        have e7 : (o.map LineV.trd ++ [p.trd]) ++ [l.trd] = ((o ++ [p]) ++ [l]).map LineV.trd := by simp
        rw [e7]
        conv => whnf
        refine NoRefK_intro (pureL_map trd_pure _).noRef ?_
        conv => whnf
        have hln : (o ++ [p] ++ [l]).length = o.length + 1 + 1 := by simp
        exact ⟨i + 1, hil, Nat.sub_lt_sub_left hil (Nat.lt_succ_self i), by dsimp only; rw [hsn, hno, hln]; rfl⟩
    · rw [List.take_of_length_le (l := lines) (by omega)]
      exact ⟨rfl, rfl, by simp, rfl, pureL_map trd_pure _⟩
theorem c_impl_TidyLinesT (cat : List ItemV) (hc : okL ItemV.ok cat) (lines : List LineV) (hl : okL LineV.ok lines) : Contract Try.prog 36 [.d (lD ItemV.dat cat), .d (lD LineV.dat lines)] (.one (.tr (.own 107 6 ((tidyV cat lines).map LineV.trd)))) := by
  by_cases hB : isBillsP cat lines
  · rw [show tidyV cat lines = tidyN lines from ifP_t hB]
    exact c_impl_TidyLines_t cat hc lines hl hB
  · rw [show tidyV cat lines = [] from ifP_f hB]
    refine contract_byR [8, 400000 + 45, 500000 + 107, 600000 + 77, 600000 + 79] hma hTa Try.func36 (by kernel_rfl) (by kernel_rfl) ?_
    conv => whnf
    refine CallK_tr (c_impl_IsBills _ hc _ hl) (fun h => absurd h hB) (fun _ => ?_)
    conv => whnf
    exact ⟨rfl, rfl, rfl, rfl, pureL_nil⟩

set_option maxHeartbeats 4000000 in
theorem c_spec_TidyLines_y (cat : List ItemV) (hc : okL ItemV.ok cat) (lines : List LineV) (hl : okL LineV.ok lines) (hB : isBillsP cat lines) : Contract Try.prog 35 [.d (lD ItemV.dat cat), .d (lD LineV.dat lines)] (.one (.own ⟨107, 6, (tidyN lines).map LineV.dat⟩)) := by
  refine contract_by hma hTa Try.func35 (by kernel_rfl) (by kernel_rfl) ?_
  conv => whnf
  have hlen := hB.2.1
  have e2 : (List.map LineV.dat lines).length = lines.length := List.length_map _
  refine LoopK_intro hma hTa [(0, .pl), (1, .pl), (5, .key 5), (6, .pl)] (fun i : Nat => ⟨[(0, .d (lD ItemV.dat cat)), (1, .d (lD LineV.dat lines)), (5, .av 5 (tidyN (lines.take i)).length), (6, .d (iD i))], [(5, some ⟨107, 6, (tidyN (lines.take i)).map LineV.dat⟩)], []⟩) (fun i => i ≤ lines.length) (fun i => lines.length - i) (by kernel_rfl) ?_ ?_
  · conv => whnf
    exact ⟨0, by omega, rfl⟩
  · intro i hi
    conv => whnf
    refine brLt (fun h => ?_) (fun h => ?_) <;> conv => whnf
    rotate_left
    · rw [List.take_of_length_le (l := lines) (by omega)]
      exact ⟨rfl, rfl, by simp, rfl⟩
    refine CallK_tr (c_spec_IsBills _ hc _ hl) (fun _ => ?_) (fun h => absurd hB h)
    conv => whnf
    refine IxK_mapLt _ rfl (by omega) (fun l hli => ?_)
    conv => whnf
    have hil := get_lt hli
    have hlo := hl.2 l (get_mem hli)
    have hll := hB.2.2.1 l (get_mem hli)
    have hlc := cond_of hB (get_mem hli)
    have hsn := tidy_snoc hli
    have htl : (tidyN (lines.take i)).length ≤ lines.length := Nat.le_trans (tidy_len _) (by simp; omega)
    have hQ := tidyQ (cat := cat) (lines := lines.take i) ⟨by simp; omega, fun x hx => hl.2 x (List.mem_of_mem_take hx)⟩ fun x hx => hB.2.2.1 x (List.mem_of_mem_take hx)
    refine CallK_intro (c_spec_l9Line l hlo hlc) ?_
    conv => whnf
    generalize tidyN (lines.take i) = out at hsn htl hQ ⊢
    have ap : ∀ (K : Nat → List D → Prop), K (out ++ [l]).length ((out ++ [l]).map LineV.dat) → AppK (out.map LineV.dat) out.length [l.dat] 6 K := fun K hK =>
      AppK_intro (n := (out ++ [l]).length) (xs' := (out ++ [l]).map LineV.dat) (by simp) (app_one rfl) (by simp; omega) (by simp [LineV.dat, D.width]) hK
    refine brLt (fun h2 => ?_) (fun h2 => ?_) <;> conv => whnf
    rotate_left
    · have h0 : out = [] := List.eq_nil_of_length_eq_zero (by omega)
      refine ap _ ?_
      conv => whnf
      refine WrK_i64 (by omega) (by omega) ?_
      conv => whnf
      exact ⟨i + 1, hil, Nat.sub_lt_sub_left hil (Nat.lt_succ_self i), by dsimp only; rw [hsn, h0, stepT_nil]; rfl⟩
    obtain ⟨p, hp⟩ : ∃ p, out[out.length - 1]? = some p := ⟨out[out.length - 1]'(by omega), by simp⟩
    obtain ⟨hpo, hpl⟩ := hQ p (get_mem hp)
    have hpe : p.stop ≤ 999 := hpl.2.2.2.2.2.1.2
    have hps : -9223372036854775808 ≤ p.stop := hpo.2.2.2.2.1.1
    have hpd : (out.map LineV.dat)[out.length - 1]? = some p.dat := by rw [List.getElem?_map, hp]; rfl
    have no : ¬ goesP p l → tidyN (lines.take (i + 1)) = out ++ [l] := fun g => by rw [hsn, stepT_no hp g]
    refine WrK_i64 (by omega) (by omega) ?_
    conv => whnf
    refine IxA_intro (out.length - 1) (by omega) (by omega) ?_
    conv => whnf
    refine getK_intro hpd ?_
    conv => whnf
    refine brStr (fun g1 => ?_) (fun g1 => ?_) <;> conv => whnf
    rotate_left
    · refine ap _ ?_
      conv => whnf
      refine WrK_i64 (by omega) (by omega) ?_
      conv => whnf
      exact ⟨i + 1, hil, Nat.sub_lt_sub_left hil (Nat.lt_succ_self i), by dsimp only; rw [no (fun g => g1 g.1)]; rfl⟩
    refine WrK_i64 (by omega) (by omega) ?_
    conv => whnf
    refine IxA_intro (out.length - 1) (by omega) (by omega) ?_
    conv => whnf
    refine getK_intro hpd ?_
    conv => whnf
    refine brStr (fun g2 => ?_) (fun g2 => ?_) <;> conv => whnf
    rotate_left
    · refine ap _ ?_
      conv => whnf
      refine WrK_i64 (by omega) (by omega) ?_
      conv => whnf
      exact ⟨i + 1, hil, Nat.sub_lt_sub_left hil (Nat.lt_succ_self i), by dsimp only; rw [no (fun g => g2 g.2.1)]; rfl⟩
    refine WrK_i64 (by omega) (by omega) ?_
    conv => whnf
    refine IxA_intro (out.length - 1) (by omega) (by omega) ?_
    conv => whnf
    refine getK_intro hpd ?_
    conv => whnf
    refine brEq (fun g3 => ?_) (fun g3 => ?_) <;> conv => whnf
    rotate_left
    · refine ap _ ?_
      conv => whnf
      refine WrK_i64 (by omega) (by omega) ?_
      conv => whnf
      exact ⟨i + 1, hil, Nat.sub_lt_sub_left hil (Nat.lt_succ_self i), by dsimp only; rw [no (fun g => g3 g.2.2.1)]; rfl⟩
    refine WrK_i64 (by omega) (by omega) ?_
    conv => whnf
    refine IxA_intro (out.length - 1) (by omega) (by omega) ?_
    conv => whnf
    refine getK_intro hpd ?_
    conv => whnf
    refine WrK_i64 (by omega) (by omega) ?_
    conv => whnf
    refine brEq (fun g4 => ?_) (fun g4 => ?_) <;> conv => whnf
    rotate_left
    · refine ap _ ?_
      conv => whnf
      refine WrK_i64 (by omega) (by omega) ?_
      conv => whnf
      exact ⟨i + 1, hil, Nat.sub_lt_sub_left hil (Nat.lt_succ_self i), by dsimp only; rw [no (fun g => g4 g.2.2.2.2.symm)]; rfl⟩
    refine WrK_i64 (by omega) (by omega) ?_
    conv => whnf
    refine IxA_intro (out.length - 1) (by omega) (by omega) ?_
    conv => whnf
    refine getK_intro hpd ?_
    conv => whnf
    refine CallK_tr (c_spec_l11Same p.when l.when hpo.2.2.2.2.2 hlo.2.2.2.2.2) (fun g5 => ?_) (fun g5 => ?_) <;> conv => whnf
    rotate_left
    · refine ap _ ?_
      conv => whnf
      refine WrK_i64 (by omega) (by omega) ?_
      conv => whnf
      exact ⟨i + 1, hil, Nat.sub_lt_sub_left hil (Nat.lt_succ_self i), by dsimp only; rw [no (fun g => g5 g.2.2.2.1)]; rfl⟩
    have g : goesP p l := ⟨g1, g2, g3, g5, g4.symm⟩
    have hgo := stepT_go hp g
    refine WrK_i64 (by omega) (by omega) ?_
    conv => whnf
    refine IxA_intro (out.length - 1) (by omega) (by omega) ?_
    conv => whnf
    refine getK_intro hpd ?_
    conv => whnf
    refine setK_intro (xs' := (out.dropLast ++ [{ p with stop := l.stop }]).map LineV.dat) (by rw [List.length_map]; omega) (set_last (f := LineV.dat) (q := { p with stop := l.stop }) (by omega)).symm ?_
    conv => whnf
    refine WrK_i64 (by omega) (by omega) ?_
    conv => whnf
    have hln : (out.dropLast ++ [({ p with stop := l.stop } : LineV)]).length = out.length := by simp; omega
    exact ⟨i + 1, hil, Nat.sub_lt_sub_left hil (Nat.lt_succ_self i), by dsimp only; rw [hsn, hgo, hln]; rfl⟩
theorem c_spec_TidyLinesV (cat : List ItemV) (hc : okL ItemV.ok cat) (lines : List LineV) (hl : okL LineV.ok lines) : Contract Try.prog 35 [.d (lD ItemV.dat cat), .d (lD LineV.dat lines)] (.one (.own ⟨107, 6, (tidyV cat lines).map LineV.dat⟩)) := by
  by_cases hB : isBillsP cat lines
  · rw [show tidyV cat lines = tidyN lines from ifP_t hB]
    exact c_spec_TidyLines_y cat hc lines hl hB
  · rw [show tidyV cat lines = [] from ifP_f hB]
    refine contract_by hma hTa Try.func35 (by kernel_rfl) (by kernel_rfl) ?_
    conv => whnf
    refine LoopK_intro hma hTa [(0, .pl), (1, .pl), (5, .key 5), (6, .pl)] (fun _ : Unit => ⟨[(0, .d (lD ItemV.dat cat)), (1, .d (lD LineV.dat lines)), (5, .av 5 0), (6, .d (iD 0))], [(5, some ⟨107, 6, []⟩)], []⟩) (fun _ => True) (fun _ => 0) (by kernel_rfl) ?_ ?_
    · conv => whnf
      exact ⟨(), trivial, rfl⟩
    · intro _ _
      conv => whnf
      refine brLt (fun h => ?_) (fun h => ?_) <;> conv => whnf
      · refine CallK_tr (c_spec_IsBills _ hc _ hl) (fun h => absurd h hB) (fun _ => ?_)
        conv => whnf
        exact ⟨rfl, rfl, rfl, rfl⟩
      · exact ⟨rfl, rfl, rfl, rfl⟩

end Go.DL
