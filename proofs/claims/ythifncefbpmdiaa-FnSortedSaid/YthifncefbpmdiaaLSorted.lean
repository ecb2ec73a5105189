/- The statement FnExactSortedSaid: the law returns true for every input that can be read as data, and each argument reads afterwards as it read before. No conditions. -/
import Derived.Test.YthifncefbpmdiaaM
import Derived.Test.YthifncefbpmdiaaS5
import Derived.Test.YthifncefbpmdiaaP8
import Derived.ProofKit
namespace Go.DL
set_option maxRecDepth 100000
set_option maxHeartbeats 2000000
set_option linter.unusedSimpArgs false
set_option linter.unusedVariables false
open Go.RowKit Go.Proofs Go.Proofs.Ythifncefbpmdiaa

theorem demEq_iff {a b : DemandV} : (eqB a.id b.id && (strEq a.item b.item && (eqB a.quantity b.quantity && (eqB a.day b.day && (eqB a.rank b.rank && true))))) = true ↔ a = b := by
  rw [Bool.and_eq_true, Bool.and_eq_true, Bool.and_eq_true, Bool.and_eq_true, Bool.and_true, eqB_iff, strEq_iff, eqB_iff, eqB_iff, eqB_iff]
  cases a; cases b; simp
theorem demNe {a : DemandV} {A B : Prop} (h : B) : brM (!(eqB a.id a.id && (strEq a.item a.item && (eqB a.quantity a.quantity && (eqB a.day a.day && (eqB a.rank a.rank && true)))))) A B := by
  rw [demEq_iff.2 rfl]; exact h
theorem are_rev {l : List DemandV} (h : areDemandsP l) : areDemandsP l.reverse := by
  refine ⟨fun j x hx => ?_, by rw [List.length_reverse]; exact h.2⟩
  have hm : x ∈ l := List.mem_reverse.1 (get_mem hx)
  obtain ⟨i, hi⟩ := List.getElem?_of_mem hm
  obtain ⟨h1, h2, h3, h4, h5, _⟩ := h.1 i x hi
  refine ⟨h1, h2, h3, h4, h5, fun k hk y hy => ?_⟩
  have hd : l.reverse.Pairwise fun a b => a.id ≠ b.id := List.pairwise_reverse.2 ((dem_dif h).imp fun h => Ne.symm h)
  have hl := get_lt hx
  have := List.pairwise_iff_getElem.1 hd k j (by omega) hl hk
  rw [List.getElem?_eq_getElem hl] at hx
  rw [List.getElem?_eq_getElem (by omega)] at hy
  cases hx; cases hy
  exact this
theorem sort_rev {l : List DemandV} (h : areDemandsP l) : sortN l.reverse = sortN l := by
  have h1 := sort_asc (dem_dif (are_rev h)) _ (Nat.le_refl _)
  have h2 := sort_asc (dem_dif h) _ (Nat.le_refl _)
  rw [List.take_length] at h1 h2
  have hp : (sortN l.reverse).Perm (sortN l) := (sort_perm _).trans ((List.reverse_perm l).trans (sort_perm l).symm)
  exact List.Perm.eq_of_pairwise (fun a b _ _ hab hba => absurd hba (bef_asym hab)) h1 h2 hp
theorem asc_at {S : List DemandV} (h : ascD S) {i : Nat} (hi : 0 < i) {x y : DemandV} (hx : S[i - 1]? = some x) (hy : S[i]? = some y) : befP x y := by
  have hl := get_lt hy
  have := List.pairwise_iff_getElem.1 h (i - 1) i (by omega) hl (by omega)
  rw [List.getElem?_eq_getElem hl] at hy
  rw [List.getElem?_eq_getElem (by omega)] at hx
  cases hx; cases hy
  exact this
set_option maxHeartbeats 8000000 in
theorem law0_FnSorted (b : List Int) (hb1 : b.length ≤ 9223372036854775807) (hb2 : ∀ n ∈ b, 0 ≤ n ∧ n ≤ 255) : Contract Try.prog 3 [.d (lD yD b)] (.one (.d (.sc (.bool true)))) := by
  refine contract_byR [200000 + 16] hma hTa Try.func3 (by kernel_rfl) (by kernel_rfl) ?_
  conv => whnf
  refine CallK_tr (c_laws_big b hb1) (fun h => ?_) (fun h => ?_) <;> conv => whnf
  refine DCallK_intro (c_spec_DrawSortDemands b (by omega) hb2) ?_
  rintro r _ ⟨l, hl, hl5, rfl⟩
  conv => whnf
  have e1 : (List.map DemandV.dat l).length = l.length := List.length_map _
  have hlr : okL DemandV.ok l.reverse := ⟨by rw [List.length_reverse]; omega, fun x hx => hl.2 x (List.mem_reverse.1 hx)⟩
  refine CallK_intro (c_impl_SortDemands l hl) ?_
  conv => whnf
  refine WrK_i64 (by omega) (by omega) ?_
  conv => whnf
  refine LoopK_introR [200000 + 16] hma hTa [(3, .pl), (4, .key 4), (5, .key 5), (6, .pl)] (fun m : Nat => ⟨[(3, .d (lD DemandV.dat l)), (4, .av 4 ((sortsN l).map DemandV.dat).length), (5, .av 5 (l.reverse.take m).length), (6, .d (iD ((l.map DemandV.dat).length - 1 - (m : Int))))], [(4, some ⟨28, 5, (sortsN l).map DemandV.dat⟩), (5, some ⟨28, 5, (l.reverse.take m).map DemandV.dat⟩)], []⟩) (fun m => m ≤ l.length) (fun m => l.length - m) (by kernel_rfl) ?_ ?_
  · conv => whnf
    refine ⟨0, by omega, ?_⟩
    dsimp only
    rw [show ((l.map DemandV.dat).length : Int) - 1 - ((0 : Nat) : Int) = ((l.map DemandV.dat).length : Int) - 1 by omega]
    rfl
  · intro m hm
    conv => whnf
    refine brLe (fun h2 => ?_) (fun h2 => ?_) <;> conv => whnf
    · have hml : m < l.length := by omega
      refine IxK_mapI (by omega) (by omega) (fun i x hi hx => ?_)
      conv => whnf
      have hxr : l.reverse[m]? = some x := by rw [List.getElem?_reverse hml, show l.length - 1 - m = i by omega]; exact hx
      have htk : (l.reverse.take m).length = m := by simp; omega
      refine AppK_intro (n := (l.reverse.take (m + 1)).length) (xs' := (l.reverse.take (m + 1)).map DemandV.dat) (by rw [take_snoc hxr]; simp) (by rw [take_snoc hxr]; exact app_l (B := [x]) rfl) (by simp; omega) (by simp [DemandV.dat, D.width, Ty.width]) ?_
      conv => whnf
      refine WrK_i64 (by omega) (by omega) ?_
      conv => whnf
      refine ⟨m + 1, hml, Nat.sub_lt_sub_left hml (Nat.lt_succ_self m), ?_⟩
      dsimp only
      rw [show ((l.map DemandV.dat).length : Int) - 1 - ((m + 1 : Nat) : Int) = ((l.map DemandV.dat).length : Int) - 1 - (m : Int) - 1 by omega]
      rfl
    · have em : m = l.length := by omega
      rw [show l.reverse.take m = l.reverse from List.take_of_length_le (by rw [List.length_reverse]; omega)]
      refine takeK_full (by simp) ?_
      conv => whnf
      refine CallK_intro (c_impl_SortDemands l.reverse hlr) ?_
      conv => whnf
      refine CallK_tr (c_spec_AreDemands _ hl) (fun hD => ?_) (fun hD => ?_) <;> conv => whnf
      rotate_left
      · have es : sortsN l = [] := by unfold sortsN; rw [ifP_f hD]
        rw [es]
        exact congrArg (fun b => D.sc (.bool b)) (eqB_iff.2 rfl)
      have es : sortsN l = sortN l := by unfold sortsN; rw [ifP_t hD]
      have es2 : sortsN l.reverse = sortN l := by unfold sortsN; rw [ifP_t (are_rev hD), sort_rev hD]
      rw [es, es2]
      have hSa : ascD (sortN l) := by have := sort_asc (dem_dif hD) _ (Nat.le_refl _); rwa [List.take_length] at this
      have hSm : ∀ s ∈ sortN l, ∃ y ∈ l, y = s := fun s hs => ⟨s, (sort_perm l).mem_iff.1 hs, rfl⟩
      have hSl := sort_len l
      generalize sortN l = S at hSa hSm hSl ⊢
      have eS : (List.map DemandV.dat S).length = l.length := by rw [List.length_map, hSl]
      refine LoopK_introR [200000 + 16] hma hTa [(3, .pl), (4, .fz), (7, .fz), (8, .pl)] (fun i : Nat => ⟨[(3, .d (lD DemandV.dat l)), (4, .d (lD DemandV.dat S)), (7, .d (lD DemandV.dat S)), (8, .d (iD i))], [], []⟩) (fun i => i ≤ l.length) (fun i => l.length - i) (by kernel_rfl) ?_ ?_
      · conv => whnf
        refine takeK_full rfl ?_
        conv => whnf
        refine takeK_full rfl ?_
        conv => whnf
        exact ⟨0, by omega, rfl⟩
      · intro i hi
        conv => whnf
        refine brLt (fun h3 => ?_) (fun h3 => ?_) <;> conv => whnf
        · have hil : i < l.length := by omega
          obtain ⟨s, hs⟩ : ∃ s, S[i]? = some s := ⟨S[i]'(by omega), by simp⟩
          have next : ∃ a : Nat, a ≤ l.length ∧ l.length - a < l.length - i ∧ (⟨[(3, .d (lD DemandV.dat l)), (4, .d (lD DemandV.dat S)), (7, .d (lD DemandV.dat S)), (8, .d (iD ((i : Int) + 1)))], [], []⟩ : St) = ⟨[(3, .d (lD DemandV.dat l)), (4, .d (lD DemandV.dat S)), (7, .d (lD DemandV.dat S)), (8, .d (iD a))], [], []⟩ :=
            ⟨i + 1, hil, Nat.sub_lt_sub_left hil (Nat.lt_succ_self i), rfl⟩
          refine LoopK_introR [200000 + 16] hma hTa [(3, .pl), (4, .pl), (7, .pl), (8, .pl), (9, .pl), (10, .pl)] (fun k : Nat => ⟨[(3, .d (lD DemandV.dat l)), (4, .d (lD DemandV.dat S)), (7, .d (lD DemandV.dat S)), (8, .d (iD i)), (9, .d (bD (tr (∃ y ∈ l.take k, y = s)))), (10, .d (iD k))], [], []⟩) (fun k => k ≤ l.length) (fun k => l.length - k) (by kernel_rfl) ?_ ?_
          · conv => whnf
            exact ⟨0, by omega, by rw [tr_f ex_take_zero]; rfl⟩
          · intro k hk
            conv => whnf
            refine brLt (fun h4 => ?_) (fun h4 => ?_) <;> conv => whnf
            · have hkl : k < l.length := by omega
              obtain ⟨y, hy⟩ : ∃ y, l[k]? = some y := ⟨l[k], by simp⟩
              have hsx := ex_take_succ (p := fun x : DemandV => x = s) hy
              refine brTr (fun h5 => ?_) (fun h5 => ?_) <;> conv => whnf
              · refine WrK_i64 (by omega) (by omega) ?_
                conv => whnf
                exact ⟨k + 1, hkl, Nat.sub_lt_sub_left hkl (Nat.lt_succ_self k), by dsimp only; rw [tr_t (hsx.2 (.inl h5))]; rfl⟩
              · refine IxK_map k rfl hy ?_
                conv => whnf
                refine IxK_map i rfl hs ?_
                conv => whnf
                refine WrK_i64 (by omega) (by omega) ?_
                conv => whnf
                refine ⟨k + 1, hkl, Nat.sub_lt_sub_left hkl (Nat.lt_succ_self k), ?_⟩
                have : (eqB y.id s.id && (strEq y.item s.item && (eqB y.quantity s.quantity && (eqB y.day s.day && (eqB y.rank s.rank && true))))) = tr (∃ y ∈ l.take (k + 1), y = s) :=
                  tr_bool (demEq_iff.trans ⟨fun h => hsx.2 (.inr h), fun h => (hsx.1 h).elim (fun h => absurd h h5) id⟩)
                dsimp only
                rw [← this]
                rfl
            · have hf : ∃ y ∈ l.take k, y = s := by rw [List.take_of_length_le (by omega)]; exact hSm s (get_mem hs)
              rw [tr_t hf]
              conv => whnf
              refine brLe (fun h5 => absurd h5 (by omega)) (fun _ => ?_)
              conv => whnf
              refine IxK_map i rfl hs ?_
              conv => whnf
              refine IxK_map i rfl hs ?_
              conv => whnf
              refine demNe ?_
              conv => whnf
              refine brLt (fun h5 => ?_) (fun h5 => ?_) <;> conv => whnf
              · obtain ⟨p, hp⟩ : ∃ p, S[i - 1]? = some p := ⟨S[i - 1]'(by omega), by simp⟩
                have hbf := asc_at hSa (by omega) hp hs
                unfold befP at hbf
                refine WrK_i64 (by omega) (by omega) ?_
                conv => whnf
                refine IxK_map (i - 1) (by omega) hp ?_
                conv => whnf
                refine IxK_map i rfl hs ?_
                conv => whnf
                refine brLt (fun h6 => absurd h6 (by omega)) (fun h6 => ?_)
                conv => whnf
                refine WrK_i64 (by omega) (by omega) ?_
                conv => whnf
                refine IxK_map (i - 1) (by omega) hp ?_
                conv => whnf
                refine IxK_map i rfl hs ?_
                conv => whnf
                refine brEq (fun h7 => ?_) (fun h7 => ?_) <;> conv => whnf
                · refine WrK_i64 (by omega) (by omega) ?_
                  conv => whnf
                  refine IxK_map (i - 1) (by omega) hp ?_
                  conv => whnf
                  refine IxK_map i rfl hs ?_
                  conv => whnf
                  refine brLt (fun h8 => absurd h8 (by omega)) (fun _ => ?_)
                  conv => whnf
                  refine WrK_i64 (by omega) (by omega) ?_
                  conv => whnf
                  exact next
                · refine WrK_i64 (by omega) (by omega) ?_
                  conv => whnf
                  exact next
              · refine WrK_i64 (by omega) (by omega) ?_
                conv => whnf
                exact next
        · refine LoopK_introR [200000 + 16] hma hTa [(3, .pl), (4, .pl), (11, .pl), (12, .pl)] (fun k : Nat => ⟨[(3, .d (lD DemandV.dat l)), (4, .d (lD DemandV.dat S)), (11, .d (iD (sumI (demTo ⟨#[65]⟩ 15) (l.take k)))), (12, .d (iD k))], [], []⟩) (fun k => k ≤ l.length) (fun k => l.length - k) (by kernel_rfl) ?_ ?_
          · conv => whnf
            exact ⟨0, by omega, rfl⟩
          · intro k hk
            have hb0 := demands_bound hD ⟨#[65]⟩ 15 k
            have hb9 := demands_bound hD ⟨#[65]⟩ 15 (k + 1)
            conv => whnf
            refine brLt (fun h4 => ?_) (fun h4 => ?_) <;> conv => whnf
            · have hkl : k < l.length := by omega
              obtain ⟨y, hy⟩ : ∃ y, l[k]? = some y := ⟨l[k], by simp⟩
              have hsu := sumI_take (f := demTo ⟨#[65]⟩ 15) hy
              have miss : ¬ (y.item = ⟨#[65]⟩ ∧ y.day ≤ 15) → sumI (demTo ⟨#[65]⟩ 15) (l.take (k + 1)) = sumI (demTo ⟨#[65]⟩ 15) (l.take k) := fun h => by rw [hsu]; unfold demTo; rw [ifP_f h]; omega
              have hit : (y.item = ⟨#[65]⟩ ∧ y.day ≤ 15) → sumI (demTo ⟨#[65]⟩ 15) (l.take (k + 1)) = sumI (demTo ⟨#[65]⟩ 15) (l.take k) + y.quantity := fun h => by rw [hsu]; unfold demTo; rw [ifP_t h]
              refine IxK_map k rfl hy ?_
              conv => whnf
              refine brStr (fun h5 => ?_) (fun h5 => ?_) <;> conv => whnf
              · refine IxK_map k rfl hy ?_
                conv => whnf
                refine brLe (fun h6 => ?_) (fun h6 => ?_) <;> conv => whnf
                · have hh := hit ⟨h5, h6⟩
                  refine IxK_map k rfl hy ?_
                  conv => whnf
                  refine WrK_i64 (by omega) (by omega) ?_
                  conv => whnf
                  refine WrK_i64 (by omega) (by omega) ?_
                  conv => whnf
                  exact ⟨k + 1, hkl, Nat.sub_lt_sub_left hkl (Nat.lt_succ_self k), by dsimp only; rw [hh]; rfl⟩
                · refine WrK_i64 (by omega) (by omega) ?_
                  conv => whnf
                  exact ⟨k + 1, hkl, Nat.sub_lt_sub_left hkl (Nat.lt_succ_self k), by dsimp only; rw [miss (fun h => by have := h.2; omega)]; rfl⟩
              · refine WrK_i64 (by omega) (by omega) ?_
                conv => whnf
                exact ⟨k + 1, hkl, Nat.sub_lt_sub_left hkl (Nat.lt_succ_self k), by dsimp only; rw [miss (fun h => h5 h.1)]; rfl⟩
            · rw [List.take_of_length_le (l := l) (by omega)]
              refine brEq (fun _ => ?_) (fun h5 => absurd (show ((List.map DemandV.dat S).length : Int) = ((List.map DemandV.dat l).length : Int) by omega) h5)
              conv => whnf
              refine CallK_intro (c_impl_DemandUpTo l hl _ _) ?_
              conv => whnf
              have : demandUpToN l ⟨#[65]⟩ 15 = sumI (demTo ⟨#[65]⟩ 15) l := by unfold demandUpToN; rw [ifP_t hD]
              rw [this]
              exact congrArg (fun b => D.sc (.bool b)) (eqB_iff.2 rfl)


theorem bytes_dec {x : D} (h : HasTy (.sl .u8) x) : ∃ b : List Int, x = lD yD b ∧ b.length ≤ 9223372036854775807 ∧ ∀ n ∈ b, 0 ≤ n ∧ n ≤ 255 := by
  obtain ⟨b, e, h1, h2⟩ := sl_dec (f := yD) (ok := fun n => 0 ≤ n ∧ n ≤ 255) (e := .u8) (fun y hy => by cases hy with | u8 n lo hi => exact ⟨n, rfl, lo, hi⟩) h
  exact ⟨b, e, h1, h2⟩
theorem law_FnSorted : ∀ xs, HasTys [.sl .u8] xs → Contract Try.prog 3 (xs.map .d) (.one (.d (.sc (.bool true)))) := by
  intro xs h
  obtain ⟨d0, r0, rfl, h0, g0⟩ := HasTys_cons h
  cases HasTys_nil g0
  obtain ⟨b, rfl, hb1, hb2⟩ := bytes_dec h0
  exact law0_FnSorted b hb1 hb2
end Go.DL
namespace Go.Proofs.Ythifncefbpmdiaa
open Go.ChangeShapes Go.WideShapes Go.ChangeAt Go.RowKit
theorem Try.cpD : Try.checked.prog = Try.prog := by kernel_rfl
theorem Try.ownD : ownKnob Try.checked.prog.godebug = none := by kernel_rfl
theorem Try.laidOutD : laidOutB Try.checked.prog = true := by kernel_rfl
theorem Try.lawD : ∀ xs, DL.HasTys [.sl .u8] xs → DL.Contract Try.checked.prog 3 (xs.map .d) (.one (.d (.sc (.bool true)))) := by rw [Try.cpD]; exact DL.law_FnSorted
theorem fnSorted_lifted (os : Os) (started : os.Started) (H : Type) (enc : TypeId × Value → H) :
    ReturnsInHanded {} Try.checked os 3 .any (Rows.fnSortedSpec.pre6 enc Try.checked.prog Try.f3 Rows.fnSortedRow.domain false) (Rows.fnSortedSpec.post enc Try.checked.prog Try.f3 false true false false) := by
  refine returnsInHanded_of_change (C := Try.checked) Try.ownD started (by kernel_rfl) Try.func3
    (ChangeSpec.witness6 (enc := enc) (C := Try.checked) false ⟨#[], #[.slice none 0 0], []⟩ 8 (by kernel_rfl) (by kernel_rfl) (by kernel_rfl) (by kernel_rfl)) ?_
  intro W base args ds gs before hval0 hW0 _ _
  exact DL.law_calls (P := Try.checked.prog) (fn := Try.f3) (s := Rows.fnSortedSpec) (ts := [22]) (tb := 4) (tys := [.sl .u8]) (by kernel_rfl) (by kernel_rfl) (by kernel_rfl) rfl
    (fun ds h => match ds, h with | [d0], _ => rfl) Try.laidOutD (by kernel_rfl) Try.lawD W base args ds gs before @hval0 hW0
/-- The law returns true, whatever comes in. -/
theorem FnSorted_holds : Rows.FnSortedSaid :=
  OpenClaim.holds_of_wide 3 Try.f3 rfl rfl rfl rfl rfl rfl rfl ⟨rfl, rfl, rfl, rfl, rfl⟩ rfl rfl rfl rfl rfl (by kernel_rfl) Try.func3 (by kernel_rfl)
    (of_decide_eq_true (by kernel_rfl)) (by unfold Func.isWrapper; first | (rw [if_pos (by decide +kernel)]; kernel_rfl) | (rw [if_neg (by decide +kernel)]; exact ⟨rfl, rfl⟩))
    (fun os started H enc _ => fnSorted_lifted os started H enc)
end Go.Proofs.Ythifncefbpmdiaa
namespace Go.DL

end Go.DL
