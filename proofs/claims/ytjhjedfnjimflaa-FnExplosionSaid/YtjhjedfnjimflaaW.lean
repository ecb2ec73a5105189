/- Contracts of functions of the program, at this seat: what each call returns, by its arguments as data; each states its own conditions. -/
import Derived.Test.YtjhjedfnjimflaaV
namespace Go.DL
set_option maxRecDepth 100000
set_option maxHeartbeats 2000000
set_option linter.unusedSimpArgs false
set_option linter.unusedVariables false
open Go.RowKit Go.Proofs Go.Proofs.Ytjhjedfnjimflaa

theorem take_eq_of {α : Type} {c l : List α} (h : c.length = l.length) {k : Nat} (hk : c.length ≤ k) (e : c.take k = l.take k) : c = l := by
  rw [List.take_of_length_le hk, List.take_of_length_le (by omega)] at e; exact e
theorem pick_eq {a b : PickV} : (strEq a.option b.option && (strEq a.value b.value && true)) = true ↔ a = b := by
  rw [Bool.and_true, Bool.and_eq_true, strEq_iff, strEq_iff]
  cases a; cases b; simp

theorem c_impl_ChoicesOf_y (m : ModelV) (hm : m.ok) (h : isModelP m) : Contract Try.prog 73 [.d m.dat] (.one (.own ⟨28, 1, (choicesN m).map (lD PickV.dat)⟩)) :=
  c_impl_ChoicesOf0 m hm _ ⟨fun _ => rfl, fun h2 => absurd h h2⟩
theorem c_impl_ChoicesOf_n (m : ModelV) (hm : m.ok) (h : ¬ isModelP m) : Contract Try.prog 73 [.d m.dat] (.one (.d (.sl []))) :=
  c_impl_ChoicesOf0 m hm _ ⟨fun h2 => absurd h2 h, fun _ => rfl⟩
theorem choices_len {m : ModelV} (h : isModelP m) : (choicesN m).length ≤ 256 := by
  have h1 := (rows_bound h m.options.length).1
  rw [List.take_length] at h1
  have h2 : 4 ^ m.options.length ≤ 256 := Nat.pow_le_pow_right (by omega) (show m.options.length ≤ 4 from h.1)
  exact Nat.le_trans (List.length_filter_le _ _) (Nat.le_trans h1 h2)
set_option maxHeartbeats 4000000 in
theorem c_impl_IsChoice (m : ModelV) (hm : m.ok) (l : List PickV) (hl : okL PickV.ok l) : Contract Try.prog 32 [.d m.dat, .d (lD PickV.dat l)] (.one (.d (bD (tr (isChoiceP m l))))) := by
  refine contract_by hma hTa Try.func32 (by kernel_rfl) (by kernel_rfl) ?_
  conv => whnf
  have e2 : (List.map PickV.dat l).length = l.length := List.length_map _
  have hl1 := hl.1
  by_cases hmod : isModelP m
  · refine CallK_intro (c_impl_ChoicesOf_y m hm hmod) ?_
    conv => whnf
    have hcl := choices_len hmod
    have hmem : ∀ c ∈ choicesN m, c.length ≤ 4 := fun c hc => by
      have h1 := (mem_rowsN.1 (List.mem_filter.1 hc).1).1
      have := hmod.1
      omega
    have hdef : isChoiceP m l ↔ l ∈ choicesN m := ⟨fun h => h.2, fun h => ⟨hmod, h⟩⟩
    rw [tr_congr hdef]
    generalize choicesN m = cs at hcl hmem ⊢
    have e1 : (List.map (lD PickV.dat) cs).length = cs.length := List.length_map _
    refine LoopK_intro hma hTa [(1, .pl), (10, .fz), (11, .pl), (12, .pl)] (fun i : Nat => ⟨[(1, .d (lD PickV.dat l)), (10, .d (lD (lD PickV.dat) cs)), (11, .d (iD (cs.map (lD PickV.dat)).length)), (12, .d (iD i))], [], []⟩) (fun i => i ≤ cs.length ∧ AllB cs (fun _ c => ¬ c = l) i) (fun i => cs.length - i) (by kernel_rfl) ?_ ?_
    · conv => whnf
      refine takeK_full rfl ?_
      conv => whnf
      exact ⟨0, ⟨by omega, AllB_zero⟩, rfl⟩
    · intro i ⟨hi, hall⟩
      conv => whnf
      refine brLt (fun h => ?_) (fun h => ?_) <;> conv => whnf
      rotate_left
      · exact bF (fun hc => by
          obtain ⟨j, hj⟩ := List.getElem?_of_mem hc
          exact hall j (by have := get_lt hj; omega) _ hj rfl)
      refine IxK_mapLt _ rfl (by omega) (fun c hc => ?_)
      conv => whnf
      have hil := get_lt hc
      have hc4 := hmem c (get_mem hc)
      have e3 : (List.map PickV.dat c).length = c.length := List.length_map _
      refine LoopK2 hma hTa [(1, .pl), (10, .pl), (11, .pl), (12, .pl), (6, .pl), (7, .pl), (8, .pl)] (fun (k : Nat) (b : Bool) => ⟨[(1, .d (lD PickV.dat l)), (10, .d (lD (lD PickV.dat) cs)), (11, .d (iD (cs.map (lD PickV.dat)).length)), (12, .d (iD i)), (6, .d (lD PickV.dat c)), (7, .d (bD b)), (8, .d (iD k))], [], []⟩) (fun k b => k ≤ c.length ∧ (b = true ↔ (c.length = l.length ∧ c.take k = l.take k))) (fun k _ => c.length - k) (by kernel_rfl) ?_ ?_
      · conv => whnf
        refine ⟨0, eqB (c.map PickV.dat).length (l.map PickV.dat).length, ⟨by omega, ?_⟩, rfl⟩
        rw [eqB_iff, e3, e2]
        exact ⟨fun h => ⟨by omega, rfl⟩, fun h => by omega⟩
      · intro k b ⟨hk, hb⟩
        conv => whnf
        refine brB (fun h3 => ?_) (fun h3 => ?_) <;> conv => whnf
        · obtain ⟨hl2, hb2⟩ := hb.1 h3
          refine brLt (fun h4 => ?_) (fun h4 => ?_) <;> conv => whnf
          · refine IxK_mapLt _ rfl (by omega) (fun p hp => ?_)
            conv => whnf
            refine IxK_mapLt _ rfl (by omega) (fun q hq => ?_)
            conv => whnf
            have hkl := get_lt hp
            refine WrK_i64 (by omega) (by omega) ?_
            conv => whnf
            refine ⟨(k + 1, _), ⟨hkl, ?_⟩, Nat.sub_lt_sub_left hkl (Nat.lt_succ_self k), rfl⟩
            dsimp only
            refine Iff.trans (@pick_eq p q) ?_
            rw [take_snoc hp, take_snoc hq]
            exact ⟨fun e => ⟨hl2, by rw [hb2, e]⟩, fun e => by
              have := List.append_inj' e.2 rfl
              simpa using this.2⟩
          · have e4 := take_eq_of hl2 (by omega) hb2
            first
              | exact bT (e4 ▸ get_mem hc)
              | (refine brB (fun _ => ?_) (fun h5 => ?_) <;> conv => whnf
                 · exact bT (e4 ▸ get_mem hc)
                 · rw [h3] at h5; cases h5)
        · have hne : ¬ c = l := fun e => by
            subst e
            rw [hb.2 ⟨rfl, rfl⟩] at h3; cases h3
          refine brB (fun h5 => absurd (h3.symm.trans h5) (by decide)) (fun _ => ?_)
          conv => whnf
          refine WrK_i64 (by omega) (by omega) ?_
          conv => whnf
          exact ⟨i + 1, ⟨hil, AllB_succ hc hall hne⟩, Nat.sub_lt_sub_left hil (Nat.lt_succ_self i), rfl⟩
  · refine CallK_intro (c_impl_ChoicesOf_n m hm hmod) ?_
    conv => whnf
    refine LoopK_intro hma hTa [(11, .pl), (12, .pl)] (fun i : Nat => ⟨[(11, .d (iD 0)), (12, .d (iD 0))], [], []⟩) (fun i => i = 0) (fun i => i) (by kernel_rfl) ?_ ?_
    · conv => whnf
      exact ⟨0, rfl, rfl⟩
    · intro i _
      conv => whnf
      refine brLt (fun h => absurd h (by decide)) (fun _ => ?_)
      conv => whnf
      exact bF (p := isChoiceP m l) (fun h => hmod h.1)

set_option maxHeartbeats 4000000 in
theorem c_spec_IsChoice (m : ModelV) (hm : m.ok) (l : List PickV) (hl : okL PickV.ok l) : Contract Try.prog 29 [.d m.dat, .d (lD PickV.dat l)] (.one (.d (bD (tr (isChoiceP m l))))) := by
  refine contract_by hma hTa Try.func29 (by kernel_rfl) (by kernel_rfl) ?_
  conv => whnf
  have e1 : (List.map OptV.dat m.options).length = m.options.length := List.length_map _
  have e2 : (List.map PickV.dat l).length = l.length := List.length_map _
  have hl1 := hl.1
  have hl3 := hm.1.1
  refine CallK_tr (c_spec_IsPartial _ hm _ hl) (fun hpart => ?_) (fun hpart => ?_) <;> conv => whnf
  rotate_left
  · exact bF (fun hc => hpart (choice_iff.1 hc).1)
  refine brNEq (fun hlen => ?_) (fun hlen => ?_) <;> conv => whnf
  rotate_left
  · exact bF (fun hc => hlen (by have := (choice_iff.1 hc).2.1; omega))
  refine LoopK_intro hma hTa [(1, .pl), (2, .key 2), (5, .pl)] (fun i : Nat => ⟨[(1, .d (lD PickV.dat l)), (2, .ae 2 0), (5, .d (iD i))], [(2, some ⟨27, 2, [m.dat]⟩)], []⟩) (fun i => i ≤ l.length ∧ AllB l (fun i p => ∀ o, m.options[i]? = some o → p.option = o.name) i) (fun i => l.length - i) (by kernel_rfl) ?_ ?_
  · conv => whnf
    exact ⟨0, ⟨by omega, AllB_zero⟩, rfl⟩
  · intro i ⟨hi, hall⟩
    conv => whnf
    refine brLt (fun h => ?_) (fun h => ?_) <;> conv => whnf
    · refine IxK_mapLt _ rfl (by omega) (fun p hp => ?_)
      conv => whnf
      refine IxK_mapLt _ rfl (by omega) (fun o ho => ?_)
      conv => whnf
      have hil := get_lt hp
      refine brNStr (fun h1 => ?_) (fun h1 => ?_) <;> conv => whnf
      rotate_left
      · exact bF (fun hc => h1 ((choice_iff.1 hc).2.2.1 i p hp o ho))
      · refine WrK_i64 (by omega) (by omega) ?_
        conv => whnf
        exact ⟨i + 1, ⟨hil, AllB_succ hp hall (fun o' ho' => by rw [ho] at ho'; cases ho'; exact h1)⟩, Nat.sub_lt_sub_left hil (Nat.lt_succ_self i), rfl⟩
    · have hnames := allP_of hall (by omega)
      refine CallK_intro (c_spec_l7All m hm hpart.1 l hl) ?_
      conv => whnf
      have e3 : (List.map (lD PickV.dat) (allN m l)).length = (allN m l).length := List.length_map _
      have : D.sc (.bool (eqB (List.map (lD PickV.dat) (allN m l)).length 1)) = bD (tr (isChoiceP m l)) := by
        congr 2
        apply tr_bool
        rw [eqB_iff, choice_iff, e3]
        exact ⟨fun h1 => ⟨hpart, by omega, hnames, by omega⟩, fun h1 => by have := h1.2.2.2; omega⟩
      exact this

end Go.DL
