/- Contracts of functions of the program, at this seat: what each call returns, by its arguments as data; each states its own conditions. -/
import Derived.Test.YtamhoddnnifbiaaP9
namespace Go.DL
set_option maxRecDepth 100000
set_option maxHeartbeats 2000000
set_option linter.unusedSimpArgs false
set_option linter.unusedVariables false
open Go.RowKit Go.Proofs Go.Proofs.Ytamhoddnnifbiaa

theorem c_impl_copyLines (lines : List LineV) (hl : okL LineV.ok lines) (hn : lines.length ≤ 100) (hcnd : ∀ x ∈ lines, isCondP x.when) : Contract Try.prog 82 [.d (lD LineV.dat lines)] (.one (.own ⟨107, 6, lines.map LineV.dat⟩)) := by
  refine contract_by hma hTa Try.func82 (by kernel_rfl) (by kernel_rfl) ?_
  conv => whnf
  have e2 : (List.map LineV.dat lines).length = lines.length := List.length_map _
  refine LoopK_intro hma hTa [(3, .key 3), (7, .pl), (8, .pl), (9, .pl)] (fun i : Nat => ⟨[(3, .av 3 (lines.take i).length), (7, .d (lD LineV.dat lines)), (8, .d (iD (lines.map LineV.dat).length)), (9, .d (iD i))], [(3, some ⟨107, 6, (lines.take i).map LineV.dat⟩)], []⟩) (fun i => i ≤ lines.length) (fun i => lines.length - i) (by kernel_rfl) ?_ ?_
  · conv => whnf
    exact ⟨0, by omega, rfl⟩
  · intro i hi
    conv => whnf
    refine brLt (fun h => ?_) (fun h => ?_) <;> conv => whnf
    · refine IxK_mapLt _ rfl (by omega) (fun x hx => ?_)
      conv => whnf
      have hil := get_lt hx
      refine CallK_intro (c_impl_copyLine x (hl.2 x (get_mem hx)) (hcnd x (get_mem hx))) ?_
      conv => whnf
      refine AppK_intro (n := (lines.take (i + 1)).length) (xs' := (lines.take (i + 1)).map LineV.dat) (by rw [take_snoc hx]; simp) (by rw [take_snoc hx]; exact app_one rfl) (by simp; omega) (by simp [LineV.dat, D.width, Ty.width]) ?_
      conv => whnf
      refine WrK_i64 (by omega) (by omega) ?_
      conv => whnf
      exact ⟨i + 1, hil, Nat.sub_lt_sub_left hil (Nat.lt_succ_self i), rfl⟩
    · rw [List.take_of_length_le (l := lines) (by omega)]
      exact ⟨rfl, rfl, by simp, rfl⟩

noncomputable def appsN (xs : List ChangeV) (lines : List LineV) : List LineV := xs.foldl (fun l x => appN x l) lines
def allAp (cat : List ItemV) (lines : List LineV) (xs : List ChangeV) (n : Nat) : Prop := ∀ i x, i < n → xs[i]? = some x → applyP cat (appsN (xs.take i) lines) x
def applysP (cat : List ItemV) (lines : List LineV) (xs : List ChangeV) : Prop := isBillsP cat lines ∧ xs.length ≤ 8 ∧ allAp cat lines xs xs.length
theorem appsN_snoc {xs : List ChangeV} {i : Nat} {x : ChangeV} (h : xs[i]? = some x) (lines : List LineV) : appsN (xs.take (i + 1)) lines = appN x (appsN (xs.take i) lines) := by
  unfold appsN; rw [take_snoc h, List.foldl_append]; rfl

set_option maxHeartbeats 4000000 in
theorem c_impl_ApplyChanges (cat : List ItemV) (hc : okL ItemV.ok cat) (lines : List LineV) (hl : okL LineV.ok lines) (xs : List ChangeV) (hx : okL ChangeV.ok xs) (r : Res) (hr : (applysP cat lines xs → r = .tup (.d (lD LineV.dat (appsN xs lines))) [bD true]) ∧ (¬ applysP cat lines xs → r = .tup (.d (.sl [])) [bD false])) : Contract Try.prog 44 [.d (lD ItemV.dat cat), .d (lD LineV.dat lines), .d (lD ChangeV.dat xs)] r := by
  refine contract_by hma hTa Try.func44 (by kernel_rfl) (by kernel_rfl) ?_
  conv => whnf
  have e3 : (List.map ChangeV.dat xs).length = xs.length := List.length_map _
  refine CallK_tr (c_impl_IsBills _ hc _ hl) (fun hB => ?_) (fun h => ?_)
  rotate_left
  · conv => whnf
    rw [hr.2 (fun h2 => h h2.1)]
    exact ⟨rfl, rfl, trivial⟩
  conv => whnf
  refine brLt (fun h => ?_) (fun h8 => ?_) <;> conv => whnf
  · rw [hr.2 (fun h2 => by have := h2.2.1; omega)]
    exact ⟨rfl, rfl, trivial⟩
  refine CallK_intro (c_impl_copyLines lines hl (by have := hB.2.1; omega) (fun x hx => cond_of hB hx)) ?_
  conv => whnf
  refine LoopK_intro hma hTa [(0, .pl), (8, .fz), (24, .pl), (25, .pl), (26, .pl)] (fun i : Nat => ⟨[(0, .d (lD ItemV.dat cat)), (8, .d (lD LineV.dat (appsN (xs.take i) lines))), (24, .d (lD ChangeV.dat xs)), (25, .d (iD (xs.map ChangeV.dat).length)), (26, .d (iD i))], [], []⟩) (fun i => i ≤ xs.length ∧ allAp cat lines xs i ∧ isBillsP cat (appsN (xs.take i) lines) ∧ okL LineV.ok (appsN (xs.take i) lines)) (fun i => xs.length - i) (by kernel_rfl) ?_ ?_
  · conv => whnf
    refine takeK_full rfl ?_
    conv => whnf
    exact ⟨0, ⟨by omega, fun i x h => by omega, hB, hl⟩, rfl⟩
  · rintro i ⟨hi, hall, hBi, hoi⟩
    conv => whnf
    refine brLt (fun h => ?_) (fun h => ?_) <;> conv => whnf
    · refine IxK_mapLt _ rfl (by omega) (fun x hxi => ?_)
      conv => whnf
      have hil := get_lt hxi
      have hxo := hx.2 x (get_mem hxi)
      have hsn := appsN_snoc hxi lines
      rcases Classical.em (applyP cat (appsN (xs.take i) lines) x) with hA | hA
      · refine CallK_intro (c_impl_ApplyChange cat hc _ hoi x hxo _ ⟨fun _ => rfl, fun h => absurd hA h⟩) ?_
        conv => whnf
        refine WrK_i64 (by omega) (by omega) ?_
        conv => whnf
        refine ⟨i + 1, ⟨hil, fun j y hj hy => ?_, by rw [hsn]; exact hA.2.2, by rw [hsn]; exact app_ok hoi (by have := hA.1.2.1; omega) hxo hA.2.1.2.1⟩, Nat.sub_lt_sub_left hil (Nat.lt_succ_self i), by dsimp only; rw [hsn]; rfl⟩
        by_cases e : j = i
        · subst e; rw [hxi] at hy; cases hy; exact hA
        · exact hall j y (by omega) hy
      · refine CallK_intro (c_impl_ApplyChange cat hc _ hoi x hxo _ ⟨fun h => absurd h hA, fun _ => rfl⟩) ?_
        conv => whnf
        rw [hr.2 (fun h => hA (h.2.2 i x hil hxi))]
        exact ⟨rfl, rfl, trivial⟩
    · have ei : i = xs.length := by omega
      subst ei
      rw [List.take_length]
      rw [hr.1 ⟨hB, by omega, hall⟩]
      exact ⟨rfl, rfl, trivial⟩

set_option maxHeartbeats 4000000 in
theorem c_spec_ApplyChanges (cat : List ItemV) (hc : okL ItemV.ok cat) (lines : List LineV) (hl : okL LineV.ok lines) (xs : List ChangeV) (hx : okL ChangeV.ok xs) (r : Res) (hr : (applysP cat lines xs → r = .tup (.d (lD LineV.dat (appsN xs lines))) [bD true]) ∧ (¬ applysP cat lines xs → r = .tup (.d (.sl [])) [bD false])) : Contract Try.prog 42 [.d (lD ItemV.dat cat), .d (lD LineV.dat lines), .d (lD ChangeV.dat xs)] r := by
  refine contract_by hma hTa Try.func42 (by kernel_rfl) (by kernel_rfl) ?_
  conv => whnf
  have e2 : (List.map LineV.dat lines).length = lines.length := List.length_map _
  have e3 : (List.map ChangeV.dat xs).length = xs.length := List.length_map _
  refine CallK_tr (c_spec_IsBills _ hc _ hl) (fun hB => ?_) (fun h => ?_)
  rotate_left
  · conv => whnf
    rw [hr.2 (fun h2 => h h2.1)]
    refine takeK_full rfl ?_
    conv => whnf
    exact ⟨rfl, rfl, trivial⟩
  conv => whnf
  refine brLt (fun h => ?_) (fun h8 => ?_) <;> conv => whnf
  · rw [hr.2 (fun h2 => by have := h2.2.1; omega)]
    refine takeK_full rfl ?_
    conv => whnf
    exact ⟨rfl, rfl, trivial⟩
  have hn := hB.2.1
  refine LoopK_intro hma hTa [(0, .pl), (1, .pl), (2, .pl), (8, .key 8), (9, .pl)] (fun i : Nat => ⟨[(0, .d (lD ItemV.dat cat)), (1, .d (lD LineV.dat lines)), (2, .d (lD ChangeV.dat xs)), (8, .av 8 (lines.take i).length), (9, .d (iD i))], [(8, some ⟨107, 6, (lines.take i).map LineV.dat⟩)], []⟩) (fun i => i ≤ lines.length) (fun i => lines.length - i) (by kernel_rfl) ?_ ?_
  · conv => whnf
    exact ⟨0, by omega, rfl⟩
  intro i hi
  conv => whnf
  refine brLt (fun h => ?_) (fun h => ?_) <;> conv => whnf
  · refine IxK_mapLt _ rfl (by omega) (fun x hx => ?_)
    conv => whnf
    have hil := get_lt hx
    refine CallK_intro (c_spec_l9Line x (hl.2 x (get_mem hx)) (cond_of hB (get_mem hx))) ?_
    conv => whnf
    refine AppK_intro (n := (lines.take (i + 1)).length) (xs' := (lines.take (i + 1)).map LineV.dat) (by rw [take_snoc hx]; simp) (by rw [take_snoc hx]; exact app_one rfl) (by simp; omega) (by simp [LineV.dat, D.width, Ty.width]) ?_
    conv => whnf
    refine WrK_i64 (by omega) (by omega) ?_
    conv => whnf
    exact ⟨i + 1, hil, Nat.sub_lt_sub_left hil (Nat.lt_succ_self i), rfl⟩
  rw [List.take_of_length_le (l := lines) (by omega)]
  refine LoopK_intro hma hTa [(0, .pl), (2, .pl), (8, .fz), (10, .pl)] (fun i : Nat => ⟨[(0, .d (lD ItemV.dat cat)), (2, .d (lD ChangeV.dat xs)), (8, .d (lD LineV.dat (appsN (xs.take i) lines))), (10, .d (iD i))], [], []⟩) (fun i => i ≤ xs.length ∧ allAp cat lines xs i ∧ isBillsP cat (appsN (xs.take i) lines) ∧ okL LineV.ok (appsN (xs.take i) lines)) (fun i => xs.length - i) (by kernel_rfl) ?_ ?_
  · conv => whnf
    refine takeK_full (List.length_map _).symm ?_
    conv => whnf
    exact ⟨0, ⟨by omega, fun i x h => by omega, hB, hl⟩, rfl⟩
  · rintro i ⟨hi, hall, hBi, hoi⟩
    conv => whnf
    refine brLt (fun h => ?_) (fun h => ?_) <;> conv => whnf
    · refine IxK_mapLt _ rfl (by omega) (fun x hxi => ?_)
      conv => whnf
      have hil := get_lt hxi
      have hxo := hx.2 x (get_mem hxi)
      have hsn := appsN_snoc hxi lines
      rcases Classical.em (applyP cat (appsN (xs.take i) lines) x) with hA | hA
      · refine CallK_intro (c_spec_ApplyChange cat hc _ hoi x hxo _ ⟨fun _ => rfl, fun h => absurd hA h⟩) ?_
        conv => whnf
        refine WrK_i64 (by omega) (by omega) ?_
        conv => whnf
        refine ⟨i + 1, ⟨hil, fun j y hj hy => ?_, by rw [hsn]; exact hA.2.2, by rw [hsn]; exact app_ok hoi (by have := hA.1.2.1; omega) hxo hA.2.1.2.1⟩, Nat.sub_lt_sub_left hil (Nat.lt_succ_self i), by dsimp only; rw [hsn]; rfl⟩
        by_cases e : j = i
        · subst e; rw [hxi] at hy; cases hy; exact hA
        · exact hall j y (by omega) hy
      · refine CallK_intro (c_spec_ApplyChange cat hc _ hoi x hxo _ ⟨fun h => absurd h hA, fun _ => rfl⟩) ?_
        conv => whnf
        rw [hr.2 (fun h => hA (h.2.2 i x hil hxi))]
        refine takeK_full rfl ?_
        conv => whnf
        exact ⟨rfl, rfl, trivial⟩
    · have ei : i = xs.length := by omega
      subst ei
      rw [List.take_length]
      rw [hr.1 ⟨hB, by omega, hall⟩]
      exact ⟨rfl, rfl, trivial⟩

theorem nodeEq_iff {a b : NodeV} : (eqB a.kind b.kind && (strEq a.option b.option && (strEq a.value b.value && true))) = true ↔ a = b := by
  rw [Bool.and_eq_true, Bool.and_eq_true, Bool.and_true, eqB_iff, strEq_iff, strEq_iff]
  cases a; cases b; simp

def dayP (day : Int) (x : LineV) : Prop := x.start ≤ day ∧ day ≤ x.stop
def dayL (day : Int) (x : LineV) : LineV := { x with start := day, stop := day }
noncomputable def billsN (day : Int) (lines : List LineV) : List LineV := (keepN (dayP day) lines).map (dayL day)
theorem bills_y {day : Int} {l : List LineV} {j : Nat} {x : LineV} (h : l[j]? = some x) (hf : dayP day x) : billsN day (l.take (j + 1)) = billsN day (l.take j) ++ [dayL day x] := by
  unfold billsN; rw [keep_y h hf, List.map_append]; rfl
theorem bills_n {day : Int} {l : List LineV} {j : Nat} {x : LineV} (h : l[j]? = some x) (hf : ¬ dayP day x) : billsN day (l.take (j + 1)) = billsN day (l.take j) := by
  unfold billsN; rw [keep_n h hf]
theorem bills_len (day : Int) (l : List LineV) : (billsN day l).length ≤ l.length := by
  unfold billsN; rw [List.length_map]; exact keep_len _ _
theorem bills_ok {day : Int} {l : List LineV} (h : okL LineV.ok l) (hd : okI day) : okL LineV.ok (billsN day l) := ⟨Nat.le_trans (bills_len _ _) h.1, fun x hx => by
  unfold billsN at hx
  obtain ⟨y, hy, rfl⟩ := List.mem_map.1 hx
  obtain ⟨k0, k1, k2, k3, k4, k5⟩ := h.2 y (keep_mem.1 hy).1
  exact ⟨k0, k1, k2, hd, hd, k5⟩⟩

theorem c_impl_BillsOn_n (cat : List ItemV) (hc : okL ItemV.ok cat) (lines : List LineV) (hl : okL LineV.ok lines) (day : Int) (hB : ¬ isBillsP cat lines) : Contract Try.prog 34 [.d (lD ItemV.dat cat), .d (lD LineV.dat lines), .d (iD day)] (.one (.own ⟨107, 6, []⟩)) := by
  refine contract_by hma hTa Try.func34 (by kernel_rfl) (by kernel_rfl) ?_
  conv => whnf
  refine CallK_tr (c_impl_IsBills _ hc _ hl) (fun h => absurd h hB) (fun _ => ?_)
  conv => whnf
  exact ⟨rfl, rfl, rfl, rfl⟩
set_option maxHeartbeats 4000000 in
theorem c_impl_BillsOn_y (cat : List ItemV) (hc : okL ItemV.ok cat) (lines : List LineV) (hl : okL LineV.ok lines) (day : Int) (hB : isBillsP cat lines) : Contract Try.prog 34 [.d (lD ItemV.dat cat), .d (lD LineV.dat lines), .d (iD day)] (.one (.own ⟨107, 6, (billsN day lines).map LineV.dat⟩)) := by
  refine contract_by hma hTa Try.func34 (by kernel_rfl) (by kernel_rfl) ?_
  conv => whnf
  refine CallK_tr (c_impl_IsBills _ hc _ hl) (fun _ => ?_) (fun h => absurd hB h)
  conv => whnf
  have hlen := hB.2.1
  have e2 : (List.map LineV.dat lines).length = lines.length := List.length_map _
  refine LoopK_intro hma hTa [(2, .pl), (7, .key 7), (17, .pl), (18, .pl), (19, .pl)] (fun i : Nat => ⟨[(2, .d (iD day)), (7, .av 7 (billsN day (lines.take i)).length), (17, .d (lD LineV.dat lines)), (18, .d (iD (lines.map LineV.dat).length)), (19, .d (iD i))], [(7, some ⟨107, 6, (billsN day (lines.take i)).map LineV.dat⟩)], []⟩) (fun i => i ≤ lines.length) (fun i => lines.length - i) (by kernel_rfl) ?_ ?_
  · conv => whnf
    exact ⟨0, by omega, rfl⟩
  · intro i hi
    have hkl : (billsN day (lines.take i)).length ≤ lines.length := Nat.le_trans (bills_len _ _) (by simp; omega)
    conv => whnf
    refine brLt (fun h => ?_) (fun h => ?_) <;> conv => whnf
    · refine IxK_mapLt _ rfl (by omega) (fun x hx => ?_)
      conv => whnf
      have hil := get_lt hx
      refine brLe (fun h1 => ?_) (fun h1 => ?_) <;> conv => whnf
      · refine brLe (fun h2 => ?_) (fun h2 => ?_) <;> conv => whnf
        · have hy := bills_y (day := day) hx ⟨h1, h2⟩
          refine CallK_intro (c_impl_copyLine x (hl.2 x (get_mem hx)) (cond_of hB (get_mem hx))) ?_
          conv => whnf
          refine AppK_intro (n := (billsN day (lines.take i)).length + 1) (xs' := (billsN day (lines.take (i + 1))).map LineV.dat) rfl (by rw [hy]; exact app_one rfl) (by omega) (by simp [LineV.dat, D.width, Ty.width]) ?_
          conv => whnf
          refine WrK_i64 (by omega) (by omega) ?_
          conv => whnf
          exact ⟨i + 1, hil, Nat.sub_lt_sub_left hil (Nat.lt_succ_self i), by dsimp only; rw [hy, List.length_append]; rfl⟩
        · refine WrK_i64 (by omega) (by omega) ?_
          conv => whnf
          exact ⟨i + 1, hil, Nat.sub_lt_sub_left hil (Nat.lt_succ_self i), by dsimp only; rw [bills_n hx (fun h => by have := h.2; omega)]; rfl⟩
      · refine WrK_i64 (by omega) (by omega) ?_
        conv => whnf
        exact ⟨i + 1, hil, Nat.sub_lt_sub_left hil (Nat.lt_succ_self i), by dsimp only; rw [bills_n hx (fun h => by have := h.1; omega)]; rfl⟩
    · rw [List.take_of_length_le (l := lines) (by omega)]
      exact ⟨rfl, rfl, by simp, rfl⟩

set_option maxHeartbeats 4000000 in
theorem c_spec_BillsOn_y (cat : List ItemV) (hc : okL ItemV.ok cat) (lines : List LineV) (hl : okL LineV.ok lines) (day : Int) (hB : isBillsP cat lines) : Contract Try.prog 33 [.d (lD ItemV.dat cat), .d (lD LineV.dat lines), .d (iD day)] (.one (.own ⟨107, 6, (billsN day lines).map LineV.dat⟩)) := by
  refine contract_by hma hTa Try.func33 (by kernel_rfl) (by kernel_rfl) ?_
  conv => whnf
  have hlen := hB.2.1
  have e2 : (List.map LineV.dat lines).length = lines.length := List.length_map _
  refine LoopK_intro hma hTa [(0, .pl), (1, .pl), (2, .pl), (7, .key 7), (8, .pl)] (fun i : Nat => ⟨[(0, .d (lD ItemV.dat cat)), (1, .d (lD LineV.dat lines)), (2, .d (iD day)), (7, .av 7 (billsN day (lines.take i)).length), (8, .d (iD i))], [(7, some ⟨107, 6, (billsN day (lines.take i)).map LineV.dat⟩)], []⟩) (fun i => i ≤ lines.length) (fun i => lines.length - i) (by kernel_rfl) ?_ ?_
  · conv => whnf
    exact ⟨0, by omega, rfl⟩
  · intro i hi
    have hkl : (billsN day (lines.take i)).length ≤ lines.length := Nat.le_trans (bills_len _ _) (by simp; omega)
    conv => whnf
    refine brLt (fun h => ?_) (fun h => ?_) <;> conv => whnf
    · refine CallK_tr (c_spec_IsBills _ hc _ hl) (fun _ => ?_) (fun h => absurd hB h)
      conv => whnf
      refine IxK_mapLt _ rfl (by omega) (fun x hx => ?_)
      conv => whnf
      have hil := get_lt hx
      refine brLe (fun h1 => ?_) (fun h1 => ?_) <;> conv => whnf
      · refine IxK_map i rfl hx ?_
        conv => whnf
        refine brLe (fun h2 => ?_) (fun h2 => ?_) <;> conv => whnf
        · have hy := bills_y (day := day) hx ⟨h1, h2⟩
          refine IxK_map i rfl hx ?_
          conv => whnf
          refine CallK_intro (c_spec_l9Line x (hl.2 x (get_mem hx)) (cond_of hB (get_mem hx))) ?_
          conv => whnf
          refine AppK_intro (n := (billsN day (lines.take i)).length + 1) (xs' := (billsN day (lines.take (i + 1))).map LineV.dat) rfl (by rw [hy]; exact app_one rfl) (by omega) (by simp [LineV.dat, D.width, Ty.width]) ?_
          conv => whnf
          refine WrK_i64 (by omega) (by omega) ?_
          conv => whnf
          exact ⟨i + 1, hil, Nat.sub_lt_sub_left hil (Nat.lt_succ_self i), by dsimp only; rw [hy, List.length_append]; rfl⟩
        · refine WrK_i64 (by omega) (by omega) ?_
          conv => whnf
          exact ⟨i + 1, hil, Nat.sub_lt_sub_left hil (Nat.lt_succ_self i), by dsimp only; rw [bills_n hx (fun h => by have := h.2; omega)]; rfl⟩
      · refine WrK_i64 (by omega) (by omega) ?_
        conv => whnf
        exact ⟨i + 1, hil, Nat.sub_lt_sub_left hil (Nat.lt_succ_self i), by dsimp only; rw [bills_n hx (fun h => by have := h.1; omega)]; rfl⟩
    · rw [List.take_of_length_le (l := lines) (by omega)]
      exact ⟨rfl, rfl, by simp, rfl⟩

end Go.DL
