/- Contracts of functions of the program, at this seat: what each call returns, by its arguments as data; each states its own conditions. -/
import Derived.Test.YtamhoddnnifbiaaP8
namespace Go.DL
set_option maxRecDepth 100000
set_option maxHeartbeats 2000000
set_option linter.unusedSimpArgs false
set_option linter.unusedVariables false
open Go.RowKit Go.Proofs Go.Proofs.Ytamhoddnnifbiaa

/-! Changes. -/
def stopB (x : ChangeV) (l : LineV) : LineV := { l with stop := x.day - 1 }
open Classical in
noncomputable def newL (x : ChangeV) (l : LineV) : LineV := { l with start := Max.max l.start x.day, part := x.new, quantity := if x.quantity = 0 then l.quantity else x.quantity }
def offP (x : ChangeV) (l : LineV) : Prop := l.parent ≠ x.parent ∨ l.part ≠ x.old ∨ l.stop < x.day
open Classical in
noncomputable def changeN (x : ChangeV) (l : LineV) : List LineV := if offP x l then [l] else (if l.start < x.day then [stopB x l] else []) ++ (if x.new = ⟨#[]⟩ then [] else [newL x l])
noncomputable def appN (x : ChangeV) (lines : List LineV) : List LineV := lines.flatMap (changeN x)
def applyP (cat : List ItemV) (lines : List LineV) (x : ChangeV) : Prop := isBillsP cat lines ∧ isChangeP cat x ∧ isBillsP cat (appN x lines)
theorem change_len (x : ChangeV) (l : LineV) : (changeN x l).length ≤ 2 := by
  unfold changeN
  split
  · simp
  · split <;> split <;> simp
theorem changeN_off {x : ChangeV} {l : LineV} (h : offP x l) : changeN x l = [l] := by unfold changeN; rw [if_pos h]
theorem changeN_on {x : ChangeV} {l : LineV} (h : ¬ offP x l) : (l.start < x.day → x.new = ⟨#[]⟩ → changeN x l = [stopB x l]) ∧ (l.start < x.day → x.new ≠ ⟨#[]⟩ → changeN x l = [stopB x l, newL x l]) ∧ (¬ l.start < x.day → x.new = ⟨#[]⟩ → changeN x l = []) ∧ (¬ l.start < x.day → x.new ≠ ⟨#[]⟩ → changeN x l = [newL x l]) := by
  unfold changeN
  rw [if_neg h]
  refine ⟨fun h1 h2 => ?_, fun h1 h2 => ?_, fun h1 h2 => ?_, fun h1 h2 => ?_⟩
  · rw [if_pos h1, if_pos h2]; rfl
  · rw [if_pos h1, if_neg h2]; rfl
  · rw [if_neg h1, if_pos h2]; rfl
  · rw [if_neg h1, if_neg h2]; rfl
theorem stopB_ok {x : ChangeV} {l : LineV} (h : l.ok) (hd : inP x.day 0 999) : (stopB x l).ok := by
  have h1 := hd.1
  have h2 := hd.2
  exact ⟨h.1, h.2.1, h.2.2.1, h.2.2.2.1, by show okI (x.day - 1); unfold okI; omega, h.2.2.2.2.2⟩
theorem newL_ok {x : ChangeV} {l : LineV} (h : l.ok) (hx : x.ok) (hd : inP x.day 0 999) : (newL x l).ok := by
  have h1 := hd.1
  have h2 := hd.2
  have h3 := h.2.2.2.1
  unfold okI at h3
  refine ⟨h.1, hx.2.2.2.1, ?_, ?_, h.2.2.2.2⟩
  · show okI (newL x l).quantity
    unfold newL
    dsimp only
    split
    · exact h.2.2.1
    · exact hx.2.2.2.2
  · show okI (Max.max l.start x.day); unfold okI; omega
theorem change_ok {x : ChangeV} {l : LineV} (h : l.ok) (hx : x.ok) (hd : inP x.day 0 999) : ∀ y ∈ changeN x l, y.ok := by
  intro y hy
  unfold changeN at hy
  split at hy
  · simp at hy; subst hy; exact h
  · rcases List.mem_append.1 hy with hy | hy
    · split at hy
      · simp at hy; subst hy; exact stopB_ok h hd
      · simp at hy
    · split at hy
      · simp at hy
      · simp at hy; subst hy; exact newL_ok h hx hd
theorem app_len (x : ChangeV) (lines : List LineV) : (appN x lines).length ≤ lines.length * 2 := flat_bound fun l _ => change_len x l
theorem app_ok {x : ChangeV} {lines : List LineV} (h : okL LineV.ok lines) (hn : lines.length ≤ 1000) (hx : x.ok) (hd : inP x.day 0 999) : okL LineV.ok (appN x lines) := by
  have h2 := app_len x lines
  refine ⟨by omega, fun y hy => ?_⟩
  obtain ⟨l, h3, h4⟩ := List.mem_flatMap.1 hy
  exact change_ok (h.2 l h3) hx hd y h4
theorem appN_take_len (x : ChangeV) (lines : List LineV) (i : Nat) : (appN x (lines.take i)).length ≤ lines.length * 2 := Nat.le_trans (app_len x _) (by simp; omega)
theorem appN_snoc {x : ChangeV} {lines : List LineV} {i : Nat} {l : LineV} (h : lines[i]? = some l) : appN x (lines.take (i + 1)) = appN x (lines.take i) ++ changeN x l := flat_snoc h
theorem sl_of {x : LineV} (h : isCondP x.when) : x.when.length ≤ 30 := h.1

set_option maxHeartbeats 8000000 in
theorem c_impl_ApplyChange (cat : List ItemV) (hc : okL ItemV.ok cat) (lines : List LineV) (hl : okL LineV.ok lines) (x : ChangeV) (hx : x.ok) (r : Res) (hr : (applyP cat lines x → r = .tup (.d (lD LineV.dat (appN x lines))) [bD true]) ∧ (¬ applyP cat lines x → r = .tup (.d (.sl [])) [bD false])) : Contract Try.prog 40 [.d (lD ItemV.dat cat), .d (lD LineV.dat lines), .d x.dat] r := by
  refine contract_by hma hTa Try.func40 (by kernel_rfl) (by kernel_rfl) ?_
  conv => whnf
  refine CallK_tr (c_impl_IsBills _ hc _ hl) (fun hB => ?_) (fun h => ?_)
  rotate_left
  · conv => whnf
    rw [hr.2 (fun h2 => h h2.1)]
    exact ⟨rfl, rfl, trivial⟩
  conv => whnf
  refine CallK_tr (c_impl_IsChange _ hc _ hx) (fun hX => ?_) (fun h => ?_)
  rotate_left
  · conv => whnf
    rw [hr.2 (fun h2 => h h2.2.1)]
    exact ⟨rfl, rfl, trivial⟩
  conv => whnf
  have hn := hB.2.1
  have hd := hX.2.1
  have hd1 := hd.1
  have hd2 := hd.2
  have e2 : (List.map LineV.dat lines).length = lines.length := List.length_map _
  refine LoopK_intro hma hTa [(0, .pl), (5, .key 5), (8, .key 8), (24, .pl), (25, .pl), (26, .pl)] (fun i : Nat => ⟨[(0, .d (lD ItemV.dat cat)), (5, .ae 5 0), (8, .av 8 (appN x (lines.take i)).length), (24, .d (lD LineV.dat lines)), (25, .d (iD (lines.map LineV.dat).length)), (26, .d (iD i))], [(5, some ⟨68, 5, [x.dat]⟩), (8, some ⟨107, 6, (appN x (lines.take i)).map LineV.dat⟩)], []⟩) (fun i => i ≤ lines.length) (fun i => lines.length - i) (by kernel_rfl) ?_ ?_
  · conv => whnf
    exact ⟨0, by omega, rfl⟩
  · intro i hi
    have hal := appN_take_len x lines i
    conv => whnf
    refine brLt (fun h => ?_) (fun h => ?_) <;> conv => whnf
    · refine IxK_mapLt _ rfl (by omega) (fun l hll => ?_)
      conv => whnf
      have hil := get_lt hll
      have hlo := hl.2 _ (get_mem hll)
      have hlc := cond_of hB (get_mem hll)
      have hsn := appN_snoc (x := x) hll
      have off : offP x l → ∀ K : Nat → List D → Prop, K ((appN x (lines.take (i + 1))).length) ((appN x (lines.take (i + 1))).map LineV.dat) → AppK ((appN x (lines.take i)).map LineV.dat) (appN x (lines.take i)).length [l.dat] 6 K := fun ho K hK =>
        AppK_intro (n := (appN x (lines.take (i + 1))).length) (xs' := (appN x (lines.take (i + 1))).map LineV.dat) (by rw [hsn, changeN_off ho]; simp) (by rw [hsn, changeN_off ho]; exact app_one rfl) (by rw [hsn, changeN_off ho]; simp; omega) (by simp [LineV.dat, D.width]) hK
      refine brNStr (fun h1 => ?_) (fun h1 => ?_) <;> conv => whnf
      rotate_left
      · refine CallK_intro (c_impl_copyLine l hlo hlc) ?_
        conv => whnf
        refine off (.inl h1) _ ?_
        conv => whnf
        refine WrK_i64 (by omega) (by omega) ?_
        conv => whnf
        exact ⟨i + 1, hil, Nat.sub_lt_sub_left hil (Nat.lt_succ_self i), rfl⟩
      refine brNStr (fun h2 => ?_) (fun h2 => ?_) <;> conv => whnf
      rotate_left
      · refine CallK_intro (c_impl_copyLine l hlo hlc) ?_
        conv => whnf
        refine off (.inr (.inl h2)) _ ?_
        conv => whnf
        refine WrK_i64 (by omega) (by omega) ?_
        conv => whnf
        exact ⟨i + 1, hil, Nat.sub_lt_sub_left hil (Nat.lt_succ_self i), rfl⟩
      refine brLt (fun h3 => ?_) (fun h3 => ?_) <;> conv => whnf
      · refine CallK_intro (c_impl_copyLine l hlo hlc) ?_
        conv => whnf
        refine off (.inr (.inr h3)) _ ?_
        conv => whnf
        refine WrK_i64 (by omega) (by omega) ?_
        conv => whnf
        exact ⟨i + 1, hil, Nat.sub_lt_sub_left hil (Nat.lt_succ_self i), rfl⟩
      have hon : ¬ offP x l := fun h => by
        rcases h with h | h | h
        · exact h h1
        · exact h h2
        · omega
      obtain ⟨k0, k1, k2, k3, k4, k5⟩ := hlo
      obtain ⟨w1, w2, w3, w4⟩ := changeN_on hon
      have q0 : ∀ l2 : LineV, x.quantity = 0 → l2 = { l with start := Max.max l.start x.day, part := x.new } → l2 = newL x l := fun l2 h1 h2 => by rw [h2]; unfold newL; rw [if_pos h1]
      have q1 : ∀ l2 : LineV, x.quantity ≠ 0 → l2 = { l with start := Max.max l.start x.day, part := x.new, quantity := x.quantity } → l2 = newL x l := fun l2 h1 h2 => by rw [h2]; unfold newL; rw [if_neg h1]
      have ap : ∀ (ys : List LineV) (y : LineV) (K : Nat → List D → Prop), ys.length ≤ 100 → K (ys ++ [y]).length ((ys ++ [y]).map LineV.dat) → AppK (ys.map LineV.dat) ys.length [y.dat] 6 K := fun ys y K h1 hK =>
        AppK_intro (n := (ys ++ [y]).length) (xs' := (ys ++ [y]).map LineV.dat) (by simp) (app_one rfl) (by simp; omega) (by simp [LineV.dat, D.width]) hK
      refine brLt (fun h4 => ?_) (fun h4 => ?_) <;> conv => whnf
      · refine CallK_intro (c_impl_copyLine l ⟨k0, k1, k2, k3, k4, k5⟩ hlc) ?_
        conv => whnf
        refine WrK_i64 (by omega) (by omega) ?_
        conv => whnf
        refine ap _ (stopB x l) _ (by omega) ?_
        conv => whnf
        refine brNStr (fun h5 => ?_) (fun h5 => ?_) <;> conv => whnf
        · refine WrK_i64 (by omega) (by omega) ?_
          conv => whnf
          exact ⟨i + 1, hil, Nat.sub_lt_sub_left hil (Nat.lt_succ_self i), by dsimp only; rw [hsn, w1 h4 h5]; rfl⟩
        · refine CallK_intro (c_impl_copyLine l ⟨k0, k1, k2, k3, k4, k5⟩ hlc) ?_
          conv => whnf
          refine brNEq (fun h6 => ?_) (fun h6 => ?_) <;> conv => whnf
          · refine ap (appN x (lines.take i) ++ [stopB x l]) ⟨l.parent, x.new, l.quantity, Max.max l.start x.day, l.stop, l.when⟩ _ (by simp; omega) ?_
            conv => whnf
            refine WrK_i64 (by omega) (by omega) ?_
            conv => whnf
            rw [q0 _ h6 rfl]
            exact ⟨i + 1, hil, Nat.sub_lt_sub_left hil (Nat.lt_succ_self i), by dsimp only; rw [hsn, w2 h4 h5, List.append_assoc]; rfl⟩
          · refine ap (appN x (lines.take i) ++ [stopB x l]) ⟨l.parent, x.new, x.quantity, Max.max l.start x.day, l.stop, l.when⟩ _ (by simp; omega) ?_
            conv => whnf
            refine WrK_i64 (by omega) (by omega) ?_
            conv => whnf
            rw [q1 _ h6 rfl]
            exact ⟨i + 1, hil, Nat.sub_lt_sub_left hil (Nat.lt_succ_self i), by dsimp only; rw [hsn, w2 h4 h5, List.append_assoc]; rfl⟩
      · have h4 : ¬ l.start < x.day := by omega
        refine brNStr (fun h5 => ?_) (fun h5 => ?_) <;> conv => whnf
        · refine WrK_i64 (by omega) (by omega) ?_
          conv => whnf
          exact ⟨i + 1, hil, Nat.sub_lt_sub_left hil (Nat.lt_succ_self i), by dsimp only; rw [hsn, w3 h4 h5, List.append_nil (appN x (lines.take i))]; rfl⟩
        · refine CallK_intro (c_impl_copyLine l ⟨k0, k1, k2, k3, k4, k5⟩ hlc) ?_
          conv => whnf
          refine brNEq (fun h6 => ?_) (fun h6 => ?_) <;> conv => whnf
          · refine ap (appN x (lines.take i)) ⟨l.parent, x.new, l.quantity, Max.max l.start x.day, l.stop, l.when⟩ _ (by omega) ?_
            conv => whnf
            refine WrK_i64 (by omega) (by omega) ?_
            conv => whnf
            rw [q0 _ h6 rfl]
            exact ⟨i + 1, hil, Nat.sub_lt_sub_left hil (Nat.lt_succ_self i), by dsimp only; rw [hsn, w4 h4 h5]; rfl⟩
          · refine ap (appN x (lines.take i)) ⟨l.parent, x.new, x.quantity, Max.max l.start x.day, l.stop, l.when⟩ _ (by omega) ?_
            conv => whnf
            refine WrK_i64 (by omega) (by omega) ?_
            conv => whnf
            rw [q1 _ h6 rfl]
            exact ⟨i + 1, hil, Nat.sub_lt_sub_left hil (Nat.lt_succ_self i), by dsimp only; rw [hsn, w4 h4 h5]; rfl⟩
    · rw [List.take_of_length_le (l := lines) (by omega)]
      have hao := app_ok hl (by omega) hx hd
      refine takeK_full (List.length_map _).symm ?_
      conv => whnf
      refine CallK_tr (c_impl_IsBills _ hc _ hao) (fun hA => ?_) (fun hA => ?_) <;> conv => whnf
      · rw [hr.1 ⟨hB, hX, hA⟩]
        refine takeK_full (List.length_map _).symm ?_
        conv => whnf
        exact ⟨rfl, rfl, trivial⟩
      · rw [hr.2 (fun h => hA h.2.2)]
        exact ⟨rfl, rfl, trivial⟩

set_option maxHeartbeats 8000000 in
theorem c_spec_ApplyChange (cat : List ItemV) (hc : okL ItemV.ok cat) (lines : List LineV) (hl : okL LineV.ok lines) (x : ChangeV) (hx : x.ok) (r : Res) (hr : (applyP cat lines x → r = .tup (.d (lD LineV.dat (appN x lines))) [bD true]) ∧ (¬ applyP cat lines x → r = .tup (.d (.sl [])) [bD false])) : Contract Try.prog 38 [.d (lD ItemV.dat cat), .d (lD LineV.dat lines), .d x.dat] r := by
  refine contract_by hma hTa Try.func38 (by kernel_rfl) (by kernel_rfl) ?_
  conv => whnf
  refine CallK_tr (c_spec_IsBills _ hc _ hl) (fun hB => ?_) (fun h => ?_)
  rotate_left
  · conv => whnf
    rw [hr.2 (fun h2 => h h2.1)]
    refine takeK_full rfl ?_
    conv => whnf
    exact ⟨rfl, rfl, trivial⟩
  conv => whnf
  refine CallK_tr (c_spec_IsChange _ hc _ hx) (fun hX => ?_) (fun h => ?_)
  rotate_left
  · conv => whnf
    rw [hr.2 (fun h2 => h h2.2.1)]
    refine takeK_full rfl ?_
    conv => whnf
    exact ⟨rfl, rfl, trivial⟩
  conv => whnf
  have hn := hB.2.1
  have hd := hX.2.1
  have hd1 := hd.1
  have hd2 := hd.2
  have hq0 : 0 ≤ x.quantity := by
    rcases hX.2.2.2.2 with h | h
    · have := h.2; omega
    · exact h.2.2.1
  have e2 : (List.map LineV.dat lines).length = lines.length := List.length_map _
  refine LoopK_intro hma hTa [(0, .pl), (1, .pl), (5, .key 5), (8, .key 8), (9, .pl)] (fun i : Nat => ⟨[(0, .d (lD ItemV.dat cat)), (1, .d (lD LineV.dat lines)), (5, .ae 5 0), (8, .av 8 (appN x (lines.take i)).length), (9, .d (iD i))], [(5, some ⟨68, 5, [x.dat]⟩), (8, some ⟨107, 6, (appN x (lines.take i)).map LineV.dat⟩)], []⟩) (fun i => i ≤ lines.length) (fun i => lines.length - i) (by kernel_rfl) ?_ ?_
  · conv => whnf
    exact ⟨0, by omega, rfl⟩
  · intro i hi
    have hal := appN_take_len x lines i
    conv => whnf
    refine brLt (fun h => ?_) (fun h => ?_) <;> conv => whnf
    · refine IxK_mapLt _ rfl (by omega) (fun l hll => ?_)
      conv => whnf
      have hil := get_lt hll
      have hlo := hl.2 _ (get_mem hll)
      have hlc := cond_of hB (get_mem hll)
      have hsn := appN_snoc (x := x) hll
      refine CallK_intro (c_spec_l9Line l hlo hlc) ?_
      conv => whnf
      have off : offP x l → ∀ K : Nat → List D → Prop, K ((appN x (lines.take (i + 1))).length) ((appN x (lines.take (i + 1))).map LineV.dat) → AppK ((appN x (lines.take i)).map LineV.dat) (appN x (lines.take i)).length [l.dat] 6 K := fun ho K hK =>
        AppK_intro (n := (appN x (lines.take (i + 1))).length) (xs' := (appN x (lines.take (i + 1))).map LineV.dat) (by rw [hsn, changeN_off ho]; simp) (by rw [hsn, changeN_off ho]; exact app_one rfl) (by rw [hsn, changeN_off ho]; simp; omega) (by simp [LineV.dat, D.width]) hK
      refine brNStr (fun h1 => ?_) (fun h1 => ?_) <;> conv => whnf
      rotate_left
      · refine off (.inl h1) _ ?_
        conv => whnf
        refine WrK_i64 (by omega) (by omega) ?_
        conv => whnf
        exact ⟨i + 1, hil, Nat.sub_lt_sub_left hil (Nat.lt_succ_self i), rfl⟩
      refine brNStr (fun h2 => ?_) (fun h2 => ?_) <;> conv => whnf
      rotate_left
      · refine off (.inr (.inl h2)) _ ?_
        conv => whnf
        refine WrK_i64 (by omega) (by omega) ?_
        conv => whnf
        exact ⟨i + 1, hil, Nat.sub_lt_sub_left hil (Nat.lt_succ_self i), rfl⟩
      refine brLt (fun h3 => ?_) (fun h3 => ?_) <;> conv => whnf
      · refine off (.inr (.inr h3)) _ ?_
        conv => whnf
        refine WrK_i64 (by omega) (by omega) ?_
        conv => whnf
        exact ⟨i + 1, hil, Nat.sub_lt_sub_left hil (Nat.lt_succ_self i), rfl⟩
      have hon : ¬ offP x l := fun h => by
        rcases h with h | h | h
        · exact h h1
        · exact h h2
        · omega
      refine CallK_intro (c_spec_l9Line l hlo hlc) ?_
      conv => whnf
      obtain ⟨k0, k1, k2, k3, k4, k5⟩ := hlo
      obtain ⟨w1, w2, w3, w4⟩ := changeN_on hon
      have q0 : ∀ l2 : LineV, x.quantity = 0 → l2 = { l with start := Max.max l.start x.day, part := x.new } → l2 = newL x l := fun l2 h1 h2 => by rw [h2]; unfold newL; rw [if_pos h1]
      have q1 : ∀ l2 : LineV, x.quantity ≠ 0 → l2 = { l with start := Max.max l.start x.day, part := x.new, quantity := x.quantity } → l2 = newL x l := fun l2 h1 h2 => by rw [h2]; unfold newL; rw [if_neg h1]
      have ap : ∀ (ys : List LineV) (y : LineV) (K : Nat → List D → Prop), ys.length ≤ 100 → K (ys ++ [y]).length ((ys ++ [y]).map LineV.dat) → AppK (ys.map LineV.dat) ys.length [y.dat] 6 K := fun ys y K h1 hK =>
        AppK_intro (n := (ys ++ [y]).length) (xs' := (ys ++ [y]).map LineV.dat) (by simp) (app_one rfl) (by simp; omega) (by simp [LineV.dat, D.width]) hK
      refine brLt (fun h4 => ?_) (fun h4 => ?_) <;> conv => whnf
      · have em : Max.max l.start x.day = x.day := by omega
        refine WrK_i64 (by omega) (by omega) ?_
        conv => whnf
        refine ap _ (stopB x l) _ (by omega) ?_
        conv => whnf
        refine brLt (fun h6 => ?_) (fun h6 => ?_) <;> conv => whnf
        · refine brNStr (fun h5 => ?_) (fun h5 => ?_) <;> conv => whnf
          · refine WrK_i64 (by omega) (by omega) ?_
            conv => whnf
            exact ⟨i + 1, hil, Nat.sub_lt_sub_left hil (Nat.lt_succ_self i), by dsimp only; rw [hsn, w1 h4 h5]; rfl⟩
          · refine ap (appN x (lines.take i) ++ [stopB x l]) ⟨l.parent, x.new, x.quantity, x.day, l.stop, l.when⟩ _ (by simp; omega) ?_
            conv => whnf
            refine WrK_i64 (by omega) (by omega) ?_
            conv => whnf
            rw [q1 ⟨l.parent, x.new, x.quantity, x.day, l.stop, l.when⟩ (by omega) (by rw [em])]
            exact ⟨i + 1, hil, Nat.sub_lt_sub_left hil (Nat.lt_succ_self i), by dsimp only; rw [hsn, w2 h4 h5, List.append_assoc]; rfl⟩
        · refine brNStr (fun h5 => ?_) (fun h5 => ?_) <;> conv => whnf
          · refine WrK_i64 (by omega) (by omega) ?_
            conv => whnf
            exact ⟨i + 1, hil, Nat.sub_lt_sub_left hil (Nat.lt_succ_self i), by dsimp only; rw [hsn, w1 h4 h5]; rfl⟩
          · refine ap (appN x (lines.take i) ++ [stopB x l]) ⟨l.parent, x.new, l.quantity, x.day, l.stop, l.when⟩ _ (by simp; omega) ?_
            conv => whnf
            refine WrK_i64 (by omega) (by omega) ?_
            conv => whnf
            rw [q0 ⟨l.parent, x.new, l.quantity, x.day, l.stop, l.when⟩ (by omega) (by rw [em])]
            exact ⟨i + 1, hil, Nat.sub_lt_sub_left hil (Nat.lt_succ_self i), by dsimp only; rw [hsn, w2 h4 h5, List.append_assoc]; rfl⟩
      · have h4 : ¬ l.start < x.day := by omega
        have em : Max.max l.start x.day = l.start := by omega
        refine brLt (fun h6 => ?_) (fun h6 => ?_) <;> conv => whnf
        · refine brNStr (fun h5 => ?_) (fun h5 => ?_) <;> conv => whnf
          · refine WrK_i64 (by omega) (by omega) ?_
            conv => whnf
            exact ⟨i + 1, hil, Nat.sub_lt_sub_left hil (Nat.lt_succ_self i), by dsimp only; rw [hsn, w3 h4 h5, List.append_nil (appN x (lines.take i))]; rfl⟩
          · refine ap (appN x (lines.take i)) ⟨l.parent, x.new, x.quantity, l.start, l.stop, l.when⟩ _ (by omega) ?_
            conv => whnf
            refine WrK_i64 (by omega) (by omega) ?_
            conv => whnf
            rw [q1 ⟨l.parent, x.new, x.quantity, l.start, l.stop, l.when⟩ (by omega) (by rw [em])]
            exact ⟨i + 1, hil, Nat.sub_lt_sub_left hil (Nat.lt_succ_self i), by dsimp only; rw [hsn, w4 h4 h5]; rfl⟩
        · refine brNStr (fun h5 => ?_) (fun h5 => ?_) <;> conv => whnf
          · refine WrK_i64 (by omega) (by omega) ?_
            conv => whnf
            exact ⟨i + 1, hil, Nat.sub_lt_sub_left hil (Nat.lt_succ_self i), by dsimp only; rw [hsn, w3 h4 h5, List.append_nil (appN x (lines.take i))]; rfl⟩
          · refine ap (appN x (lines.take i)) ⟨l.parent, x.new, l.quantity, l.start, l.stop, l.when⟩ _ (by omega) ?_
            conv => whnf
            refine WrK_i64 (by omega) (by omega) ?_
            conv => whnf
            rw [q0 ⟨l.parent, x.new, l.quantity, l.start, l.stop, l.when⟩ (by omega) (by rw [em])]
            exact ⟨i + 1, hil, Nat.sub_lt_sub_left hil (Nat.lt_succ_self i), by dsimp only; rw [hsn, w4 h4 h5]; rfl⟩
    · rw [List.take_of_length_le (l := lines) (by omega)]
      have hao := app_ok hl (by omega) hx hd
      refine takeK_full (List.length_map _).symm ?_
      conv => whnf
      refine CallK_tr (c_spec_IsBills _ hc _ hao) (fun hA => ?_) (fun hA => ?_) <;> conv => whnf
      · rw [hr.1 ⟨hB, hX, hA⟩]
        refine takeK_full (List.length_map _).symm ?_
        conv => whnf
        exact ⟨rfl, rfl, trivial⟩
      · rw [hr.2 (fun h => hA h.2.2)]
        refine takeK_full rfl ?_
        conv => whnf
        exact ⟨rfl, rfl, trivial⟩

end Go.DL
