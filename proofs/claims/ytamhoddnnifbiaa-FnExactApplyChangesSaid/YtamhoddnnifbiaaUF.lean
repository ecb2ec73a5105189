/- Contracts of functions of the program, at this seat: what each call returns, by its arguments as data; each states its own conditions. -/
import Derived.Test.YtamhoddnnifbiaaUE
namespace Go.DL
set_option maxRecDepth 100000
set_option maxHeartbeats 2000000
set_option linter.unusedSimpArgs false
set_option linter.unusedVariables false
open Go.RowKit Go.Proofs Go.Proofs.Ytamhoddnnifbiaa

theorem sumW_le {α : Type} {f : α → Nat} {b : Nat} : ∀ {l : List α}, (∀ x ∈ l, f x ≤ b) → sumW f l ≤ l.length * b
  | [], _ => by simp [sumW]
  | x :: l, h => by
    have h1 := h x (by simp)
    have h2 := sumW_le (f := f) (b := b) (l := l) fun y hy => h y (by simp [hy])
    rw [sumW_cons, List.length_cons, Nat.add_mul]; omega
theorem code_at {cat : List ItemV} (hc : isCatalogP cat) {s : ByteArray} (h : 0 ≤ idxOf cat s) : s.size ≤ 8 := by
  obtain ⟨z, hz1, hz2⟩ := idx_at h
  rw [← hz2]
  exact (hc.1 _ z hz1).1.1.2.2
theorem cond_wt {l : List NodeV} (h : isCondP l) : wtL NodeV.wt l ≤ 510 := by
  have h1 := h.1
  have h2 : sumW NodeV.wt l ≤ l.length * 16 := sumW_le fun x hx => by
    obtain ⟨i, hi⟩ := List.getElem?_of_mem hx
    have h3 := (h.2.1 i x hi).2.2
    unfold NodeV.wt
    by_cases hk : x.kind = 1
    · have := (h3.1 hk).1.2.2
      have := (h3.1 hk).2.2.2
      omega
    · have h4 := h3.2 hk
      rw [h4.1, h4.2]
      show (0 : Nat) + 0 ≤ 16
      omega
  unfold wtL; omega
theorem bills_wt {cat : List ItemV} {L : List LineV} (h : isBillsP cat L) : wtL LineV.wt L ≤ 13000 := by
  have h1 := h.2.1
  have h2 : sumW LineV.wt L ≤ L.length * 526 := sumW_le fun x hx => by
    have h3 := h.2.2.1 x hx
    have h4 := code_at h.1 h3.1
    have h5 := code_at h.1 h3.2.1
    have h6 := cond_wt h3.2.2.2.2.2.2
    unfold LineV.wt; omega
  unfold wtL; omega
/-- Two lines have been appended. -/
theorem resLine2 {σ : St} {k j1 j2 m1 m2 : Nat} (pre : List LineV) (x y : LineV) {K : List D → List Nat → Prop} (hx : σ.ab.f j1 = some ⟨136, 3, x.when.map NodeV.dat⟩) (hy : σ.ab.f j2 = some ⟨136, 3, y.when.map NodeV.dat⟩) (hj : j1 ≠ j2) (hj1 : k ≠ j1) (hj2 : k ≠ j2) (hK : K ((pre ++ [x] ++ [y]).map LineV.trd) [j1, j2]) :
    ResK σ k (pre.map LineV.trd ++ [.agg [sD x.parent, sD x.part, iD x.quantity, iD x.start, iD x.stop, .ref j1 m1]] ++ [.agg [sD y.parent, sD y.part, iD y.quantity, iD y.start, iD y.stop, .ref j2 m2]]) K := by
  refine ResK_intro (U := [j1, j2]) (xs' := (pre ++ [x] ++ [y]).map LineV.trd) ?_ (by simp [hj]) (by simp [hj1, hj2]) hK
  rw [List.map_append, List.map_append]
  exact RVL.app (RVL.app (RVL.same (pureL_map trd_pure _).noRef) (RVL.cons (x := .agg [sD x.parent, sD x.part, iD x.quantity, iD x.start, iD x.stop, .ref j1 m1]) (x' := x.trd) (r := []) (r' := []) rfl (rvLine x hx) (RVL.same (xs := []) (fun d hd => by simp [fl] at hd))))
    (RVL.cons (x := .agg [sD y.parent, sD y.part, iD y.quantity, iD y.start, iD y.stop, .ref j2 m2]) (x' := y.trd) (r := []) (r' := []) rfl (rvLine y hy) (RVL.same (xs := []) (fun d hd => by simp [fl] at hd)))
noncomputable def appV (cat : List ItemV) (lines : List LineV) (x : ChangeV) : List LineV := ifP (applyP cat lines x) (appN x lines) []
theorem appV_ok (cat : List ItemV) (_ : okL ItemV.ok cat) (lines : List LineV) (hl : okL LineV.ok lines) (x : ChangeV) (hx : x.ok) : okL LineV.ok (appV cat lines x) ∧ wtL LineV.wt (appV cat lines x) ≤ 13000 := by
  by_cases h : applyP cat lines x
  · rw [show appV cat lines x = _ from ifP_t h]
    exact ⟨app_ok hl (by have := h.1.2.1; omega) hx h.2.1.2.1, bills_wt h.2.2⟩
  · rw [show appV cat lines x = _ from ifP_f h]; exact ⟨⟨by simp, by simp⟩, by simp [wtL, sumW]⟩
set_option maxHeartbeats 8000000 in
theorem c_impl_ApplyChangeT (cat : List ItemV) (hc : okL ItemV.ok cat) (lines : List LineV) (hl : okL LineV.ok lines) (x : ChangeV) (hx : x.ok) : Contract Try.prog 40 [.d (lD ItemV.dat cat), .d (lD LineV.dat lines), .d x.dat] (.tup (.tr (.own 107 6 ((appV cat lines x).map LineV.trd))) [bD (tr (applyP cat lines x))]) := by
  have no : ¬ applyP cat lines x → appV cat lines x = [] ∧ tr (applyP cat lines x) = false := fun h => ⟨ifP_f h, tr_f h⟩
  refine contract_byR [400000 + 45, 400000 + 107, 600000 + 77, 600000 + 69] hma hTa Try.func40 (by kernel_rfl) (by kernel_rfl) ?_
  conv => whnf
  refine CallK_tr (c_impl_IsBills _ hc _ hl) (fun hB => ?_) (fun h => ?_)
  rotate_left
  · conv => whnf
    rw [(no (fun h2 => h h2.1)).1, (no (fun h2 => h h2.1)).2]
    exact ⟨⟨rfl, by omega⟩, rfl, trivial⟩
  conv => whnf
  refine CallK_tr (c_impl_IsChange _ hc _ hx) (fun hX => ?_) (fun h => ?_)
  rotate_left
  · conv => whnf
    rw [(no (fun h2 => h h2.2.1)).1, (no (fun h2 => h h2.2.1)).2]
    exact ⟨⟨rfl, by omega⟩, rfl, trivial⟩
  conv => whnf
  have hn := hB.2.1
  have hd := hX.2.1
  have hd1 := hd.1
  have hd2 := hd.2
  have e2 : (List.map LineV.dat lines).length = lines.length := List.length_map _
  refine LoopK_introR [400000 + 45, 400000 + 107, 600000 + 77, 600000 + 69] hma hTa [(0, .pl), (5, .key 5), (8, .tree 8), (24, .pl), (25, .pl), (26, .pl)] (fun i : Nat => ⟨[(0, .d (lD ItemV.dat cat)), (5, .ae 5 0), (8, .fv 8 (appN x (lines.take i)).length), (1000000 + 8, .fa ⟨107, 6, (appN x (lines.take i)).map LineV.trd⟩), (24, .d (lD LineV.dat lines)), (25, .d (iD (lines.map LineV.dat).length)), (26, .d (iD i))], [(5, some ⟨68, 5, [x.dat]⟩), (8, none)], []⟩) (fun i => i ≤ lines.length) (fun i => lines.length - i) (by kernel_rfl) ?_ ?_
  · conv => whnf
    refine ResK_same (pureL_nil).noRef ?_
    conv => whnf
    refine NoRefK_intro (pureL_nil).noRef ?_
    conv => whnf
    exact ⟨0, by omega, rfl⟩
  · intro i hi
    have hal := appN_take_len x lines i
    conv => whnf
    refine brLt (fun h => ?_) (fun h => ?_) <;> conv => whnf
    rotate_left
    · rw [List.take_of_length_le (l := lines) (by omega)]
      have hao := app_ok hl (by omega) hx hd
      refine NeedK_intro (by simp) ?_
      conv => whnf
      refine ErK_intro ((appN x lines).map LineV.dat) (pureL_map trd_pure _).clean (eraseL_mapTo trd_erase _) ?_
      conv => whnf
      refine CallK_tr (c_impl_IsBills _ hc _ hao) (fun hA => ?_) (fun hA => ?_) <;> conv => whnf
      · rw [show appV cat lines x = appN x lines from ifP_t ⟨hB, hX, hA⟩, tr_t (show applyP cat lines x from ⟨hB, hX, hA⟩)]
        exact ⟨⟨rfl, rfl, by simp, rfl, pureL_map trd_pure _⟩, rfl, trivial⟩
      · rw [(no (fun h => hA h.2.2)).1, (no (fun h => hA h.2.2)).2]
        exact ⟨⟨rfl, by omega⟩, rfl, trivial⟩
    refine IxK_mapLt _ rfl (by omega) (fun l hll => ?_)
    conv => whnf
    have hil := get_lt hll
    have hlo := hl.2 _ (get_mem hll)
    have hlc := cond_of hB (get_mem hll)
    have hcl := c_impl_copyLineT l (by have := hlc.1; omega)
    have hsn := appN_snoc (x := x) hll
    generalize hpre : appN x (lines.take i) = pre at hal hsn ⊢
    have off : offP x l → ∀ (σ : St), σ = ⟨[(0, .d (lD ItemV.dat cat)), (5, .ae 5 0), (8, .fv 8 (pre.length + 1)), (1000000 + 8, .fa ⟨107, 6, (pre ++ [l]).map LineV.trd⟩), (24, .d (lD LineV.dat lines)), (25, .d (iD (lines.map LineV.dat).length)), (26, .d (iD ((i : Int) + 1)))], [(5, some ⟨68, 5, [x.dat]⟩), (8, none)], []⟩ → ∃ a : Nat, a ≤ lines.length ∧ lines.length - a < lines.length - i ∧ σ = ⟨[(0, .d (lD ItemV.dat cat)), (5, .ae 5 0), (8, .fv 8 (appN x (lines.take a)).length), (1000000 + 8, .fa ⟨107, 6, (appN x (lines.take a)).map LineV.trd⟩), (24, .d (lD LineV.dat lines)), (25, .d (iD (lines.map LineV.dat).length)), (26, .d (iD a))], [(5, some ⟨68, 5, [x.dat]⟩), (8, none)], []⟩ := fun ho σ hσ =>
      ⟨i + 1, hil, Nat.sub_lt_sub_left hil (Nat.lt_succ_self i), by rw [hσ, hsn, changeN_off ho, List.length_append]; rfl⟩
    have fin : ∀ (ys : List LineV) (n : Nat), changeN x l = ys → n = (pre ++ ys).length → ∀ (σ : St), σ = ⟨[(0, .d (lD ItemV.dat cat)), (5, .ae 5 0), (8, .fv 8 n), (1000000 + 8, .fa ⟨107, 6, (pre ++ ys).map LineV.trd⟩), (24, .d (lD LineV.dat lines)), (25, .d (iD (lines.map LineV.dat).length)), (26, .d (iD ((i : Int) + 1)))], [(5, some ⟨68, 5, [x.dat]⟩), (8, none)], []⟩ → ∃ a : Nat, a ≤ lines.length ∧ lines.length - a < lines.length - i ∧ σ = ⟨[(0, .d (lD ItemV.dat cat)), (5, .ae 5 0), (8, .fv 8 (appN x (lines.take a)).length), (1000000 + 8, .fa ⟨107, 6, (appN x (lines.take a)).map LineV.trd⟩), (24, .d (lD LineV.dat lines)), (25, .d (iD (lines.map LineV.dat).length)), (26, .d (iD a))], [(5, some ⟨68, 5, [x.dat]⟩), (8, none)], []⟩ := fun ys n hys hn σ hσ =>
      ⟨i + 1, hil, Nat.sub_lt_sub_left hil (Nat.lt_succ_self i), by rw [hσ, hsn, hys, hn]; rfl⟩
    refine brNStr (fun h1 => ?_) (fun h1 => ?_) <;> conv => whnf
    rotate_left
    · refine CallK_intro hcl ?_
      conv => whnf
      refine NeedK_intro (trd_ok l) ?_
      conv => whnf
      refine NeedK_intro (by simp) ?_
      conv => whnf
      refine NeedK_intro (by simp) ?_
      conv => whnf
      refine NeedK_intro okLine ?_
      conv => whnf
      refine apLine rfl (by omega) rfl ?_
      conv => whnf
      refine WrK_i64 (by omega) (by omega) ?_
      conv => whnf
      refine resLine pre l rfl (by decide) ?_
      conv => whnf
      refine NoRefK_intro (pureL_map trd_pure _).noRef ?_
      conv => whnf
      exact off (.inl h1) _ rfl
    refine brNStr (fun h2 => ?_) (fun h2 => ?_) <;> conv => whnf
    rotate_left
    · refine CallK_intro hcl ?_
      conv => whnf
      refine NeedK_intro (trd_ok l) ?_
      conv => whnf
      refine NeedK_intro (by simp) ?_
      conv => whnf
      refine NeedK_intro (by simp) ?_
      conv => whnf
      refine NeedK_intro okLine ?_
      conv => whnf
      refine apLine rfl (by omega) rfl ?_
      conv => whnf
      refine WrK_i64 (by omega) (by omega) ?_
      conv => whnf
      refine resLine pre l rfl (by decide) ?_
      conv => whnf
      refine NoRefK_intro (pureL_map trd_pure _).noRef ?_
      conv => whnf
      exact off (.inr (.inl h2)) _ rfl
    refine brLt (fun h3 => ?_) (fun h3 => ?_) <;> conv => whnf
    · refine CallK_intro hcl ?_
      conv => whnf
      refine NeedK_intro (trd_ok l) ?_
      conv => whnf
      refine NeedK_intro (by simp) ?_
      conv => whnf
      refine NeedK_intro (by simp) ?_
      conv => whnf
      refine NeedK_intro okLine ?_
      conv => whnf
      refine apLine rfl (by omega) rfl ?_
      conv => whnf
      refine WrK_i64 (by omega) (by omega) ?_
      conv => whnf
      refine resLine pre l rfl (by decide) ?_
      conv => whnf
      refine NoRefK_intro (pureL_map trd_pure _).noRef ?_
      conv => whnf
      exact off (.inr (.inr h3)) _ rfl
    have hon : ¬ offP x l := fun h => by
      rcases h with h | h | h
      · exact h h1
      · exact h h2
      · omega
    obtain ⟨w1, w2, w3, w4⟩ := changeN_on hon
    have q0 : x.quantity = 0 → ({ l with start := Max.max l.start x.day, part := x.new } : LineV) = newL x l := fun h1 => by unfold newL; rw [if_pos h1]
    have q1 : x.quantity ≠ 0 → ({ l with start := Max.max l.start x.day, part := x.new, quantity := x.quantity } : LineV) = newL x l := fun h1 => by unfold newL; rw [if_neg h1]
    refine brLt (fun h4 => ?_) (fun h4 => ?_) <;> conv => whnf
    · refine CallK_intro hcl ?_
      conv => whnf
      refine NeedK_intro (trd_ok l) ?_
      conv => whnf
      refine WrK_i64 (by omega) (by omega) ?_
      conv => whnf
      refine NeedK_intro (by simp) ?_
      conv => whnf
      refine NeedK_intro (by simp) ?_
      conv => whnf
      refine NeedK_intro okLine ?_
      conv => whnf
      refine apLine rfl (by omega) rfl ?_
      conv => whnf
      refine brNStr (fun h5 => ?_) (fun h5 => ?_) <;> conv => whnf
      · refine WrK_i64 (by omega) (by omega) ?_
        conv => whnf
        refine resLine pre (stopB x l) rfl (by decide) ?_
        conv => whnf
        refine NoRefK_intro (pureL_map trd_pure _).noRef ?_
        conv => whnf
        exact fin [stopB x l] _ (w1 h4 h5) (by simp) _ rfl
      · refine CallK_intro hcl ?_
        conv => whnf
        refine NeedK_intro (trd_ok l) ?_
        conv => whnf
        refine brNEq (fun h6 => ?_) (fun h6 => ?_) <;> conv => whnf
        · refine NeedK_intro (by simp) ?_
          conv => whnf
          refine NeedK_intro (by simp) ?_
          conv => whnf
          refine NeedK_intro okLine ?_
          conv => whnf
          refine AppK_intro (n := pre.length + 1 + 1) rfl (app_mid (by simp)) (by omega) (fun y hy => by rw [List.mem_singleton.1 hy]; rfl) ?_
          conv => whnf
          refine WrK_i64 (by omega) (by omega) ?_
          conv => whnf
          refine resLine2 pre (stopB x l) { l with start := Max.max l.start x.day, part := x.new } rfl rfl (by decide) (by decide) (by decide) ?_
          rw [q0 h6]
          conv => whnf
          refine NoRefK_intro (pureL_map trd_pure _).noRef ?_
          conv => whnf
          have e9 : pre ++ [stopB x l] ++ [newL x l] = pre ++ [stopB x l, newL x l] := by simp
          rw [e9]
          exact fin [stopB x l, newL x l] _ (w2 h4 h5) (by simp) _ rfl
        · refine NeedK_intro (by simp) ?_
          conv => whnf
          refine NeedK_intro (by simp) ?_
          conv => whnf
          refine NeedK_intro okLine ?_
          conv => whnf
          refine AppK_intro (n := pre.length + 1 + 1) rfl (app_mid (by simp)) (by omega) (fun y hy => by rw [List.mem_singleton.1 hy]; rfl) ?_
          conv => whnf
          refine WrK_i64 (by omega) (by omega) ?_
          conv => whnf
          refine resLine2 pre (stopB x l) { l with start := Max.max l.start x.day, part := x.new, quantity := x.quantity } rfl rfl (by decide) (by decide) (by decide) ?_
          rw [q1 h6]
          conv => whnf
          refine NoRefK_intro (pureL_map trd_pure _).noRef ?_
          conv => whnf
          have e9 : pre ++ [stopB x l] ++ [newL x l] = pre ++ [stopB x l, newL x l] := by simp
          rw [e9]
          exact fin [stopB x l, newL x l] _ (w2 h4 h5) (by simp) _ rfl
    · have h4 : ¬ l.start < x.day := by omega
      refine brNStr (fun h5 => ?_) (fun h5 => ?_) <;> conv => whnf
      · refine WrK_i64 (by omega) (by omega) ?_
        conv => whnf
        refine ResK_same (pureL_map trd_pure _).noRef ?_
        conv => whnf
        refine NoRefK_intro (pureL_map trd_pure _).noRef ?_
        conv => whnf
        have e9 : pre.map LineV.trd = (pre ++ []).map LineV.trd := by simp
        rw [e9]
        exact fin [] _ (w3 h4 h5) (by simp) _ rfl
      · refine CallK_intro hcl ?_
        conv => whnf
        refine NeedK_intro (trd_ok l) ?_
        conv => whnf
        refine brNEq (fun h6 => ?_) (fun h6 => ?_) <;> conv => whnf
        · refine NeedK_intro (by simp) ?_
          conv => whnf
          refine NeedK_intro (by simp) ?_
          conv => whnf
          refine NeedK_intro okLine ?_
          conv => whnf
          refine apLine rfl (by omega) rfl ?_
          conv => whnf
          refine WrK_i64 (by omega) (by omega) ?_
          conv => whnf
          refine resLine pre { l with start := Max.max l.start x.day, part := x.new } rfl (by decide) ?_
          rw [q0 h6]
          conv => whnf
          refine NoRefK_intro (pureL_map trd_pure _).noRef ?_
          conv => whnf
          exact fin [newL x l] _ (w4 h4 h5) (by simp) _ rfl
        · refine NeedK_intro (by simp) ?_
          conv => whnf
          refine NeedK_intro (by simp) ?_
          conv => whnf
          refine NeedK_intro okLine ?_
          conv => whnf
          refine apLine rfl (by omega) rfl ?_
          conv => whnf
          refine WrK_i64 (by omega) (by omega) ?_
          conv => whnf
          refine resLine pre { l with start := Max.max l.start x.day, part := x.new, quantity := x.quantity } rfl (by decide) ?_
          rw [q1 h6]
          conv => whnf
          refine NoRefK_intro (pureL_map trd_pure _).noRef ?_
          conv => whnf
          exact fin [newL x l] _ (w4 h4 h5) (by simp) _ rfl

theorem c_spec_ApplyChangeV (cat : List ItemV) (hc : okL ItemV.ok cat) (lines : List LineV) (hl : okL LineV.ok lines) (x : ChangeV) (hx : x.ok) : Contract Try.prog 38 [.d (lD ItemV.dat cat), .d (lD LineV.dat lines), .d x.dat] (.tup (.d (lD LineV.dat (appV cat lines x))) [bD (tr (applyP cat lines x))]) := by
  refine c_spec_ApplyChange cat hc lines hl x hx _ ⟨fun h => ?_, fun h => ?_⟩
  · rw [tr_t h, show appV cat lines x = _ from ifP_t h]
  · rw [tr_f h, show appV cat lines x = _ from ifP_f h]; rfl

noncomputable def appsV (cat : List ItemV) (lines : List LineV) (xs : List ChangeV) : List LineV := ifP (applysP cat lines xs) (appsN xs lines) []
theorem apps_at {cat : List ItemV} {lines : List LineV} (hl : okL LineV.ok lines) (hB : isBillsP cat lines) {xs : List ChangeV} (hx : okL ChangeV.ok xs) (h : allAp cat lines xs xs.length) : ∀ n, n ≤ xs.length → okL LineV.ok (appsN (xs.take n) lines) ∧ isBillsP cat (appsN (xs.take n) lines)
  | 0, _ => by simpa [appsN] using ⟨hl, hB⟩
  | n + 1, hn => by
    obtain ⟨h1, h2⟩ := apps_at hl hB hx h n (by omega)
    have hxn : xs[n]? = some (xs[n]'(by omega)) := List.getElem?_eq_getElem (by omega)
    generalize xs[n]'(by omega) = x at hxn
    have h3 := h n x (by omega) hxn
    rw [appsN_snoc hxn]
    exact ⟨app_ok h1 (by have := h2.2.1; omega) (hx.2 x (get_mem hxn)) h3.2.1.2.1, h3.2.2⟩
theorem appsV_ok (cat : List ItemV) (_ : okL ItemV.ok cat) (lines : List LineV) (hl : okL LineV.ok lines) (xs : List ChangeV) (hx : okL ChangeV.ok xs) : okL LineV.ok (appsV cat lines xs) ∧ wtL LineV.wt (appsV cat lines xs) ≤ 13000 := by
  by_cases h : applysP cat lines xs
  · rw [show appsV cat lines xs = _ from ifP_t h]
    obtain ⟨h1, h2⟩ := apps_at hl h.1 hx h.2.2 xs.length (Nat.le_refl _)
    rw [List.take_length] at h1 h2
    exact ⟨h1, bills_wt h2⟩
  · rw [show appsV cat lines xs = _ from ifP_f h]; exact ⟨⟨by simp, by simp⟩, by simp [wtL, sumW]⟩
set_option maxHeartbeats 4000000 in
theorem c_impl_ApplyChangesT (cat : List ItemV) (hc : okL ItemV.ok cat) (lines : List LineV) (hl : okL LineV.ok lines) (xs : List ChangeV) (hx : okL ChangeV.ok xs) : Contract Try.prog 44 [.d (lD ItemV.dat cat), .d (lD LineV.dat lines), .d (lD ChangeV.dat xs)] (.tup (.tr (.own 107 6 ((appsV cat lines xs).map LineV.trd))) [bD (tr (applysP cat lines xs))]) := by
  have no : ¬ applysP cat lines xs → appsV cat lines xs = [] ∧ tr (applysP cat lines xs) = false := fun h => ⟨ifP_f h, tr_f h⟩
  refine contract_byR [600000 + 82, 600000 + 40] hma hTa Try.func44 (by kernel_rfl) (by kernel_rfl) ?_
  conv => whnf
  have e3 : (List.map ChangeV.dat xs).length = xs.length := List.length_map _
  refine CallK_tr (c_impl_IsBills _ hc _ hl) (fun hB => ?_) (fun h => ?_)
  rotate_left
  · conv => whnf
    rw [(no (fun h2 => h h2.1)).1, (no (fun h2 => h h2.1)).2]
    exact ⟨⟨rfl, by omega⟩, rfl, trivial⟩
  conv => whnf
  refine brLt (fun h => ?_) (fun h8 => ?_) <;> conv => whnf
  · have hno := no (fun h2 => by have := h2.2.1; omega)
    rw [hno.1, hno.2]
    exact ⟨⟨rfl, by omega⟩, rfl, trivial⟩
  refine CallK_intro (c_impl_copyLinesT lines (by have := hB.2.1; omega) (fun x hx => cond_of hB hx)) ?_
  conv => whnf
  refine NeedK_intro (pureL_map trd_pure _).clean ?_
  conv => whnf
  refine LoopK_introR [600000 + 82, 600000 + 40] hma hTa [(0, .pl), (8, .tree 8), (24, .pl), (25, .pl), (26, .pl)] (fun i : Nat => ⟨[(0, .d (lD ItemV.dat cat)), (8, .fv 8 ((appsN (xs.take i) lines).map LineV.trd).length), (1000000 + 8, .fa ⟨107, 6, (appsN (xs.take i) lines).map LineV.trd⟩), (24, .d (lD ChangeV.dat xs)), (25, .d (iD (xs.map ChangeV.dat).length)), (26, .d (iD i))], [(8, none)], []⟩) (fun i => i ≤ xs.length ∧ allAp cat lines xs i ∧ isBillsP cat (appsN (xs.take i) lines) ∧ okL LineV.ok (appsN (xs.take i) lines)) (fun i => xs.length - i) (by kernel_rfl) ?_ ?_
  · conv => whnf
    refine ResK_same (pureL_map trd_pure _).noRef ?_
    conv => whnf
    refine NoRefK_intro (pureL_map trd_pure _).noRef ?_
    conv => whnf
    exact ⟨0, ⟨by omega, fun i x h => by omega, hB, hl⟩, rfl⟩
  · rintro i ⟨hi, hall, hBi, hoi⟩
    conv => whnf
    refine brLt (fun h => ?_) (fun h => ?_) <;> conv => whnf
    rotate_left
    · have ei : i = xs.length := by omega
      subst ei
      rw [List.take_length]
      rw [show appsV cat lines xs = appsN xs lines from ifP_t ⟨hB, by omega, hall⟩, tr_t (show applysP cat lines xs from ⟨hB, by omega, hall⟩)]
      exact ⟨⟨rfl, rfl, rfl, rfl, pureL_map trd_pure _⟩, rfl, trivial⟩
    refine IxK_mapLt _ rfl (by omega) (fun x hxi => ?_)
    conv => whnf
    have hil := get_lt hxi
    have hxo := hx.2 x (get_mem hxi)
    have hsn := appsN_snoc hxi lines
    refine NeedK_intro rfl ?_
    conv => whnf
    refine ErK_intro ((appsN (xs.take i) lines).map LineV.dat) (pureL_map trd_pure _).clean (eraseL_mapTo trd_erase _) ?_
    conv => whnf
    refine CallK_intro (c_impl_ApplyChangeT cat hc _ hoi x hxo) ?_
    conv => whnf
    refine NeedK_intro (pureL_map trd_pure _).clean ?_
    conv => whnf
    refine brNTr (fun hA => ?_) (fun hA => ?_) <;> conv => whnf
    · refine WrK_i64 (by omega) (by omega) ?_
      conv => whnf
      rw [show appV cat (appsN (xs.take i) lines) x = appN x (appsN (xs.take i) lines) from ifP_t hA, ← hsn]
      refine ResK_same (pureL_map trd_pure _).noRef ?_
      conv => whnf
      refine NoRefK_intro (pureL_map trd_pure _).noRef ?_
      conv => whnf
      refine ⟨i + 1, ⟨hil, fun j y hj hy => ?_, by rw [hsn]; exact hA.2.2, by rw [hsn]; exact app_ok hoi (by have := hA.1.2.1; omega) hxo hA.2.1.2.1⟩, Nat.sub_lt_sub_left hil (Nat.lt_succ_self i), rfl⟩
      by_cases e : j = i
      · subst e; rw [hxi] at hy; cases hy; exact hA
      · exact hall j y (by omega) hy
    · have hno := no (fun h => hA (h.2.2 i x hil hxi))
      rw [hno.1, hno.2]
      exact ⟨⟨rfl, by omega⟩, rfl, trivial⟩

theorem c_spec_ApplyChangesV (cat : List ItemV) (hc : okL ItemV.ok cat) (lines : List LineV) (hl : okL LineV.ok lines) (xs : List ChangeV) (hx : okL ChangeV.ok xs) : Contract Try.prog 42 [.d (lD ItemV.dat cat), .d (lD LineV.dat lines), .d (lD ChangeV.dat xs)] (.tup (.d (lD LineV.dat (appsV cat lines xs))) [bD (tr (applysP cat lines xs))]) := by
  refine c_spec_ApplyChanges cat hc lines hl xs hx _ ⟨fun h => ?_, fun h => ?_⟩
  · rw [tr_t h, show appsV cat lines xs = _ from ifP_t h]
  · rw [tr_f h, show appsV cat lines xs = _ from ifP_f h]; rfl

end Go.DL
