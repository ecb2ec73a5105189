/- The statement FnExactOpenSaid: the law returns true for every input that can be read as data, and each argument reads afterwards as it read before. No conditions. -/
import Derived.Test.YthfagmoaoihhpaaQ5
import Derived.ProofKit
namespace Go.DL
set_option maxRecDepth 100000
set_option maxHeartbeats 2000000
set_option linter.unusedSimpArgs false
set_option linter.unusedVariables false
open Go.RowKit Go.Proofs Go.Proofs.Ythfagmoaoihhpaa

set_option maxHeartbeats 8000000 in
theorem law0_FnOpen (b : List Int) (hb1 : b.length ≤ 9223372036854775807) (hb2 : ∀ n ∈ b, 0 ≤ n ∧ n ≤ 255) : Contract Try.prog 4 [.d (lD yD b)] (.one (.d (.sc (.bool true)))) := by
  refine contract_byR [25, 200000 + 12] hma hTa Try.func4 (by kernel_rfl) (by kernel_rfl) ?_
  conv => whnf
  refine CallK_tr (c_laws_big b hb1) (fun h => ?_) (fun h => ?_) <;> conv => whnf
  refine DCallK_intro (c_spec_DrawOpenValues b (by omega) hb2) ?_
  rintro res _ ⟨m, p, o, hm, hp, hp5, hoS, rfl⟩
  conv => whnf
  refine CallK_intro (c_impl_OpenValuesV m hm p hp o) ?_
  conv => whnf
  refine CallK_intro (c_impl_CompleteChoiceV m hm p hp) ?_
  conv => whnf
  refine CallK_tr (c_spec_IsPartial _ hm _ hp) (fun hpa => ?_) (fun hpa => ?_) <;> conv => whnf
  rotate_left
  · rw [show openV m p o = [] from ifP_f (fun h => hpa h.1), tr_f (show ¬ compP m p from fun h => hpa h.1)]
    conv => whnf
    refine brEq (fun _ => ?_) (fun h => absurd rfl h)
    conv => whnf
    exact rfl
  refine CallK_intro (c_spec_ChoicesOfV m hm) ?_
  rw [show choicesV m = choicesN m from ifP_t hpa.1]
  have hrow := choices_row hpa.1 hm
  have hlen := choices_len2 hpa.1
  obtain ⟨hL1, hL2⟩ := openV_ok m hm p hp o
  obtain ⟨hX1, hX2⟩ := compV_ok m hm p hp
  have hfirst := fun {i : Nat} {c : List PickV} => comp_first (i := i) (c := c) hpa
  have hopen := fun {c : List PickV} (hc : c ∈ choicesN m) (hcon : conP p c) {k : Nat} {q : PickV} => open_of (o := o) (k := k) (q := q) hpa hc hcon
  have hfits := fun {v : ByteArray} => open_fits (o := o) (v := v) hpa
  have hcc := comp_con (m := m) (p := p)
  have hci := comp_iff hpa
  generalize hAl : choicesN m = all at hrow hlen hfirst hopen hci ⊢
  generalize openV m p o = L at hL1 hL2 hopen hfits ⊢
  generalize compV m p = X at hX1 hX2 hfirst hcc ⊢
  have eA : (List.map (lD PickV.dat) all).length = all.length := List.length_map _
  have eL : (List.map sD L).length = L.length := List.length_map _
  conv => whnf
  refine LoopK_introR [25, 200000 + 12] hma hTa [(3, .key 3), (4, .pl), (5, .pl), (6, .fz), (7, .fz), (8, .pl), (9, .fz), (10, .pl), (11, .pl)] (fun i : Nat => ⟨[(3, .ae 3 0), (4, .d (lD PickV.dat p)), (5, .d (sD o)), (6, .d (lD sD L)), (7, .d (lD PickV.dat X)), (8, .d (bD (tr (compP m p)))), (9, .d (lD (lD PickV.dat) all)), (10, .d (bD (tr (∀ c ∈ all.take i, ¬ conP p c)))), (11, .d (iD i))], [(3, some ⟨27, 2, [m.dat]⟩)], []⟩) (fun i => i ≤ all.length) (fun i => all.length - i) (by kernel_rfl) ?_ ?_
  · conv => whnf
    refine takeK_full rfl ?_
    conv => whnf
    refine takeK_full rfl ?_
    conv => whnf
    refine takeK_full rfl ?_
    conv => whnf
    exact ⟨0, by omega, by rw [tr_t (show ∀ c ∈ all.take 0, ¬ conP p c from fun c hc => by simp at hc)]; rfl⟩
  intro i hi
  conv => whnf
  refine brLt (fun h1 => ?_) (fun h1 => ?_) <;> conv => whnf
  · have hil : i < all.length := by omega
    obtain ⟨c, hc⟩ : ∃ c, all[i]? = some c := ⟨all[i], by simp⟩
    have hcr := hrow c (get_mem hc)
    refine IxK_map i rfl hc ?_
    conv => whnf
    refine CallK_tr (c_laws_contains c ⟨by omega, hcr.2⟩ p hp) (fun hcon => ?_) (fun hcon => ?_) <;> conv => whnf
    rotate_left
    · refine WrK_i64 (by omega) (by omega) ?_
      conv => whnf
      refine ⟨i + 1, hil, Nat.sub_lt_sub_left hil (Nat.lt_succ_self i), ?_⟩
      dsimp only
      rw [tr_congr (show (∀ x ∈ all.take (i + 1), ¬ conP p x) ↔ ∀ x ∈ all.take i, ¬ conP p x from by
        rw [take_snoc hc]
        exact ⟨fun h x hx => h x (List.mem_append_left _ hx), fun h x hx => by rcases List.mem_append.1 hx with hx | hx; exact h x hx; rw [List.mem_singleton.1 hx]; exact hcon⟩)]
      rfl
    refine brTr (fun hf => ?_) (fun hf => ?_) <;> conv => whnf
    all_goals first
      | (have hT : ¬ ∀ x ∈ all.take i, ¬ conP p x := hf)
      | (have hT : ∀ x ∈ all.take i, ¬ conP p x := hf
         obtain ⟨hcp, hX⟩ := hfirst hc (fun j hj x hx => hT x (List.mem_of_getElem? (i := j) (by rw [List.getElem?_take, if_pos hj]; exact hx))) hcon
         refine brNTr (fun _ => ?_) (fun h => absurd hcp h)
         conv => whnf
         refine IxK_map i rfl hc ?_
         conv => whnf
         refine CallK_tr (c_laws_samePicks X hX1 c ⟨by omega, hcr.2⟩) (fun _ => ?_) (fun h => absurd hX h)
         conv => whnf)
    all_goals
      have hnx : tr (∀ x ∈ all.take (i + 1), ¬ conP p x) = false := tr_f fun h => h c (by rw [take_snoc hc]; simp) hcon
      refine LoopK_introR [25, 200000 + 12] hma hTa [(3, .key 3), (4, .pl), (5, .pl), (6, .pl), (7, .pl), (8, .pl), (9, .pl), (10, .pl), (11, .pl), (12, .pl)] (fun k : Nat => ⟨[(3, .ae 3 0), (4, .d (lD PickV.dat p)), (5, .d (sD o)), (6, .d (lD sD L)), (7, .d (lD PickV.dat X)), (8, .d (bD (tr (compP m p)))), (9, .d (lD (lD PickV.dat) all)), (10, .d (bD false)), (11, .d (iD i)), (12, .d (iD k))], [(3, some ⟨27, 2, [m.dat]⟩)], []⟩) (fun k => k ≤ c.length) (fun k => c.length - k) (by kernel_rfl) ?_ ?_
      · conv => whnf
        exact ⟨0, by omega, rfl⟩
      intro k hk
      have eC : (List.map PickV.dat c).length = c.length := List.length_map _
      conv => whnf
      refine IxK_map i rfl hc ?_
      conv => whnf
      refine brLt (fun h2 => ?_) (fun h2 => ?_) <;> conv => whnf
      · have hkl : k < c.length := by omega
        obtain ⟨q, hq⟩ : ∃ q, c[k]? = some q := ⟨c[k], by simp⟩
        refine IxK_map i rfl hc ?_
        conv => whnf
        refine IxK_map k rfl hq ?_
        conv => whnf
        refine brStr (fun h3 => ?_) (fun h3 => ?_) <;> conv => whnf
        · refine IxK_map i rfl hc ?_
          conv => whnf
          refine IxK_map k rfl hq ?_
          conv => whnf
          refine CallK_tr (c_laws_hasText L hL1 q.value) (fun _ => ?_) (fun h => absurd (hopen (get_mem hc) hcon hq h3) h)
          conv => whnf
          refine WrK_i64 (by omega) (by omega) ?_
          conv => whnf
          exact ⟨k + 1, hkl, Nat.sub_lt_sub_left hkl (Nat.lt_succ_self k), rfl⟩
        · refine WrK_i64 (by omega) (by omega) ?_
          conv => whnf
          exact ⟨k + 1, hkl, Nat.sub_lt_sub_left hkl (Nat.lt_succ_self k), rfl⟩
      · refine WrK_i64 (by omega) (by omega) ?_
        conv => whnf
        exact ⟨i + 1, hil, Nat.sub_lt_sub_left hil (Nat.lt_succ_self i), by dsimp only; rw [hnx]; rfl⟩
  · have ei : i = all.length := by omega
    subst ei
    rw [List.take_length]
    refine LoopK_introR [25, 200000 + 12] hma hTa [(3, .key 3), (4, .pl), (5, .pl), (6, .pl), (7, .pl), (8, .pl), (10, .pl), (13, .pl)] (fun t : Nat => ⟨[(3, .ae 3 0), (4, .d (lD PickV.dat p)), (5, .d (sD o)), (6, .d (lD sD L)), (7, .d (lD PickV.dat X)), (8, .d (bD (tr (compP m p)))), (10, .d (bD (tr (∀ c ∈ all, ¬ conP p c)))), (13, .d (iD t))], [(3, some ⟨27, 2, [m.dat]⟩)], []⟩) (fun t => t ≤ L.length) (fun t => L.length - t) (by kernel_rfl) ?_ ?_
    · conv => whnf
      exact ⟨0, by omega, rfl⟩
    intro t ht
    conv => whnf
    refine brLt (fun h2 => ?_) (fun h2 => ?_) <;> conv => whnf
    · have htl : t < L.length := by omega
      obtain ⟨v, hv⟩ : ∃ v, L[t]? = some v := ⟨L[t], by simp⟩
      have hvS := hL1.2 v (get_mem hv)
      have hfit := hfits (get_mem hv)
      refine AppK_intro (n := p.length) (xs' := p.map PickV.dat) (by simp) (by simp) (by omega) (by simp [PickV.dat, D.width, Ty.width]) ?_
      conv => whnf
      refine IxK_map t rfl hv ?_
      conv => whnf
      refine AppK_intro (n := (p ++ [(⟨o, v⟩ : PickV)]).length) (xs' := (p ++ [(⟨o, v⟩ : PickV)]).map PickV.dat) (by simp) (app1 rfl) (by simp; omega) (by simp [PickV.dat, D.width, Ty.width]) ?_
      conv => whnf
      refine takeK_full (by simp) ?_
      conv => whnf
      have hpo : okL PickV.ok (p ++ [(⟨o, v⟩ : PickV)]) := ⟨by simp; omega, fun y hy => (by rcases List.mem_append.1 hy with h3 | h3; exact hp.2 y h3; rw [List.mem_singleton.1 h3]; exact ⟨hoS, hvS⟩)⟩
      refine CallK_intro (c_impl_CompleteChoiceV m hm _ hpo) ?_
      conv => whnf
      refine KeysK_intro (by kernel_rfl) ?_
      conv => whnf
      refine brNTr (fun _ => ?_) (fun hno => ?_) <;> conv => whnf
      · refine WrK_i64 (by omega) (by omega) ?_
        conv => whnf
        exact ⟨t + 1, htl, Nat.sub_lt_sub_left htl (Nat.lt_succ_self t), rfl⟩
      · obtain ⟨hcp, hmem⟩ := hfit.resolve_left hno
        have hin : conP [(⟨o, v⟩ : PickV)] X := fun y hy => by rw [List.mem_singleton.1 hy]; exact hcc hcp _ hmem
        refine IxK_map t rfl hv ?_
        conv => whnf
        refine CallK_tr (c_laws_contains X hX1 [(⟨o, v⟩ : PickV)] ⟨by simp, fun y hy => by rw [List.mem_singleton.1 hy]; exact ⟨hoS, hvS⟩⟩) (fun _ => ?_) (fun h => absurd hin h)
        conv => whnf
        refine WrK_i64 (by omega) (by omega) ?_
        conv => whnf
        exact ⟨t + 1, htl, Nat.sub_lt_sub_left htl (Nat.lt_succ_self t), rfl⟩
    · have key : tr (∀ c ∈ all, ¬ conP p c) = !tr (compP m p) := by
        by_cases h3 : compP m p
        · obtain ⟨c, h4, h5⟩ := hci.1 h3
          rw [tr_t h3, tr_f (fun h => h c h4 h5)]; rfl
        · rw [tr_f h3, tr_t (fun c h4 h5 => h3 (hci.2 ⟨c, h4, h5⟩))]; rfl
      rw [key]
      cases tr (compP m p) <;> simp [bEq_eq]


theorem bytes_dec {x : D} (h : HasTy (.sl .u8) x) : ∃ b : List Int, x = lD yD b ∧ b.length ≤ 9223372036854775807 ∧ ∀ n ∈ b, 0 ≤ n ∧ n ≤ 255 := by
  obtain ⟨b, e, h1, h2⟩ := sl_dec (f := yD) (ok := fun n => 0 ≤ n ∧ n ≤ 255) (e := .u8) (fun y hy => by cases hy with | u8 n lo hi => exact ⟨n, rfl, lo, hi⟩) h
  exact ⟨b, e, h1, h2⟩
theorem law_FnOpen : ∀ xs, HasTys [.sl .u8] xs → Contract Try.prog 4 (xs.map .d) (.one (.d (.sc (.bool true)))) := by
  intro xs h
  obtain ⟨d0, r0, rfl, h0, g0⟩ := HasTys_cons h
  cases HasTys_nil g0
  obtain ⟨b, rfl, hb1, hb2⟩ := bytes_dec h0
  exact law0_FnOpen b hb1 hb2
end Go.DL
namespace Go.Proofs.Ythfagmoaoihhpaa
open Go.ChangeShapes Go.WideShapes Go.ChangeAt Go.RowKit
theorem Try.cpD : Try.checked.prog = Try.prog := by kernel_rfl
theorem Try.ownD : ownKnob Try.checked.prog.godebug = none := by kernel_rfl
theorem Try.laidOutD : laidOutB Try.checked.prog = true := by kernel_rfl
theorem Try.lawD : ∀ xs, DL.HasTys [.sl .u8] xs → DL.Contract Try.checked.prog 4 (xs.map .d) (.one (.d (.sc (.bool true)))) := by rw [Try.cpD]; exact DL.law_FnOpen
theorem fnOpen_lifted (os : Os) (started : os.Started) (H : Type) (enc : TypeId × Value → H) :
    ReturnsInHanded {} Try.checked os 4 .any (Rows.fnOpenSpec.pre6 enc Try.checked.prog Try.f4 Rows.fnOpenRow.domain false) (Rows.fnOpenSpec.post enc Try.checked.prog Try.f4 false true false false) := by
  refine returnsInHanded_of_change (C := Try.checked) Try.ownD started (by kernel_rfl) Try.func4
    (ChangeSpec.witness6 (enc := enc) (C := Try.checked) false ⟨#[], #[.slice none 0 0], []⟩ 8 (by kernel_rfl) (by kernel_rfl) (by kernel_rfl) (by kernel_rfl)) ?_
  intro W base args ds gs before hval0 hW0 _ _
  exact DL.law_calls (P := Try.checked.prog) (fn := Try.f4) (s := Rows.fnOpenSpec) (ts := [22]) (tb := 4) (tys := [.sl .u8]) (by kernel_rfl) (by kernel_rfl) (by kernel_rfl) rfl
    (fun ds h => match ds, h with | [d0], _ => rfl) Try.laidOutD (by kernel_rfl) Try.lawD W base args ds gs before @hval0 hW0
/-- The law returns true, whatever comes in. -/
theorem FnOpen_holds : Rows.FnOpenSaid :=
  OpenClaim.holds_of_wide 4 Try.f4 rfl rfl rfl rfl rfl rfl rfl ⟨rfl, rfl, rfl, rfl, rfl⟩ rfl rfl rfl rfl rfl (by kernel_rfl) Try.func4 (by kernel_rfl)
    (of_decide_eq_true (by kernel_rfl)) (by unfold Func.isWrapper; first | (rw [if_pos (by decide +kernel)]; kernel_rfl) | (rw [if_neg (by decide +kernel)]; exact ⟨rfl, rfl⟩))
    (fun os started H enc _ => fnOpen_lifted os started H enc)
end Go.Proofs.Ythfagmoaoihhpaa
namespace Go.DL

end Go.DL
