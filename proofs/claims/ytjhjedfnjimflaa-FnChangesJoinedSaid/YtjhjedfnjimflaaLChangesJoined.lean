/- The statement FnExactChangesJoinedSaid: the law returns true for every input that can be read as data, and each argument reads afterwards as it read before. No conditions. -/
import Derived.Test.YtjhjedfnjimflaaM
import Derived.Test.YtjhjedfnjimflaaPA
import Derived.ProofKit
namespace Go.DL
set_option maxRecDepth 100000
set_option maxHeartbeats 2000000
set_option linter.unusedSimpArgs false
set_option linter.unusedVariables false
open Go.RowKit Go.Proofs Go.Proofs.Ytjhjedfnjimflaa

theorem bEq_self (b : Bool) : bEq b b = true := by rw [bEq_eq]; simp
theorem appsN_cut (xs : List ChangeV) (k : Nat) (lines : List LineV) : appsN xs lines = appsN (xs.drop k) (appsN (xs.take k) lines) := by
  unfold appsN
  rw [← List.foldl_append, List.take_append_drop]
theorem applys_cut {cat : List ItemV} {lines : List LineV} {xs : List ChangeV} {k : Nat} (hk : k ≤ xs.length) (h1 : applysP cat lines (xs.take k)) : applysP cat lines xs ↔ applysP cat (appsN (xs.take k) lines) (xs.drop k) ∧ xs.length ≤ 8 := by
  obtain ⟨hB, hl, ha⟩ := h1
  have hBk : isBillsP cat (appsN (xs.take k) lines) := by
    by_cases h0 : k = 0
    · subst h0; exact hB
    · have hj : k - 1 < (xs.take k).length := by simp; omega
      have hx : (xs.take k)[k - 1]? = some ((xs.take k)[k - 1]'hj) := List.getElem?_eq_getElem hj
      have h2 := ha (k - 1) _ hj hx
      have h3 := appsN_snoc hx lines
      rw [List.take_of_length_le (l := xs.take k) (by simp; omega)] at h3
      rw [h3]
      exact h2.2.2
  have key : ∀ j, appsN ((xs.drop k).take j) (appsN (xs.take k) lines) = appsN (xs.take (k + j)) lines := fun j => by
    rw [appsN_cut (xs.take (k + j)) k lines, List.take_take, Nat.min_eq_left (by omega), List.drop_take]
    congr 2
    omega
  constructor
  · rintro ⟨_, hl8, hall⟩
    refine ⟨⟨hBk, by simp; omega, fun j x hj hx => ?_⟩, hl8⟩
    rw [key]
    rw [List.getElem?_drop] at hx
    exact hall (k + j) x (by simp at hj; omega) hx
  · rintro ⟨⟨_, hl2, hall⟩, hl8⟩
    refine ⟨hB, hl8, fun j x hj hx => ?_⟩
    by_cases h2 : j < k
    · have := ha j x (by simp; omega) (by rw [List.getElem?_take, if_pos h2]; exact hx)
      rw [List.take_take, Nat.min_eq_left (by omega)] at this
      exact this
    · have := hall (j - k) x (by simp; omega) (by rw [List.getElem?_drop, show k + (j - k) = j by omega]; exact hx)
      rw [key, show k + (j - k) = j by omega] at this
      exact this
theorem apps_ok {cat : List ItemV} {lines : List LineV} {xs : List ChangeV} (hl : okL LineV.ok lines) (hx : okL ChangeV.ok xs) (h : applysP cat lines xs) : ∀ i, i ≤ xs.length → okL LineV.ok (appsN (xs.take i) lines)
  | 0, _ => hl
  | i + 1, hi => by
    have hxi : xs[i]? = some (xs[i]'hi) := by simp
    have hA := h.2.2 i _ hi hxi
    rw [appsN_snoc hxi]
    exact app_ok (apps_ok hl hx h i (by omega)) (by have := hA.1.2.1; omega) (hx.2 _ (get_mem hxi)) hA.2.1.2.1
set_option maxHeartbeats 4000000 in
theorem law0_FnChangesJoined (b : List Int) (hb1 : b.length ≤ 9223372036854775807) (hb2 : ∀ n ∈ b, 0 ≤ n ∧ n ≤ 255) : Contract Try.prog 10 [.d (lD yD b)] (.one (.d (.sc (.bool true)))) := by
  refine contract_byR [200000 + 52] hma hTa Try.func10 (by kernel_rfl) (by kernel_rfl) ?_
  conv => whnf
  refine CallK_tr (c_laws_big b hb1) (fun h => ?_) (fun h => ?_) <;> conv => whnf
  refine DCallK_intro (c_spec_DrawApplyChanges b (by omega) hb2) ?_
  rintro r _ ⟨cat, lines, xs, hc, hc6, hl, hl20, hx, hx3, rfl⟩
  conv => whnf
  have e3 : (List.map ChangeV.dat xs).length = xs.length := List.length_map _
  have hnil : okL LineV.ok [] := ⟨by simp, fun x h => by simp at h⟩
  have eT : ∀ k, (List.map ChangeV.dat xs).take k = List.map ChangeV.dat (xs.take k) := fun k => by rw [List.map_take]
  have eD : ∀ k, (List.map ChangeV.dat xs).drop k = List.map ChangeV.dat (xs.drop k) := fun k => by rw [List.map_drop]
  have hxT : ∀ k, okL ChangeV.ok (xs.take k) := fun k => ⟨by simp; omega, fun x h => hx.2 x (List.mem_of_mem_take h)⟩
  have hxD : ∀ k, okL ChangeV.ok (xs.drop k) := fun k => ⟨by simp; omega, fun x h => hx.2 x (List.mem_of_mem_drop h)⟩
  have half : Int.tdiv ((List.map ChangeV.dat xs).length : Int) 2 = ((xs.length / 2 : Nat) : Int) := by
    rw [Int.tdiv_eq_ediv_of_nonneg (by omega)]; omega
  have hk3 : xs.length / 2 ≤ xs.length := by omega
  have hk9 : xs.length / 2 ≤ 3 := by omega
  generalize xs.length / 2 = k at half hk3 hk9
  have slT : ∀ K : List D → Prop, K (List.map ChangeV.dat (xs.take k)) → SlK (List.map ChangeV.dat xs) 5 none (some (k : Int)) K := fun K hK => SlK_intro 0 k rfl rfl (by omega) (by omega) (wd fun _ => rfl) (by rw [eT]; rfl) hK
  have slD : ∀ K : List D → Prop, K (List.map ChangeV.dat (xs.drop k)) → SlK (List.map ChangeV.dat xs) 5 (some (k : Int)) none K := fun K hK => SlK_intro k (List.map ChangeV.dat xs).length rfl rfl (by omega) (by omega) (wd fun _ => rfl) (by rw [List.take_of_length_le (by omega), eD]) hK
  have hTa' : applysP cat lines xs → applysP cat lines (xs.take k) := fun ⟨h1, h2, h3⟩ => ⟨h1, by simp; omega, fun i x hi hx => by
    rw [List.length_take] at hi
    rw [List.getElem?_take, if_pos (by omega)] at hx
    have := h3 i x (by omega) hx
    rw [List.take_take, Nat.min_eq_left (by omega)]
    exact this⟩
  rcases Classical.em (applysP cat lines xs) with hA | hA
  · have hT := hTa' hA
    have hD := ((applys_cut hk3 hT).1 hA).1
    have hto := apps_ok hl (hxT k) hT (xs.take k).length (Nat.le_refl _)
    rw [List.take_of_length_le (Nat.le_refl _)] at hto
    have hao := apps_ok hl hx hA xs.length (Nat.le_refl _)
    rw [List.take_of_length_le (Nat.le_refl _)] at hao
    have hcut := appsN_cut xs k lines
    refine CallK_intro (c_impl_ApplyChanges cat hc lines hl xs hx _ ⟨fun _ => rfl, fun h => absurd hA h⟩) ?_
    conv => whnf
    refine CallK_intro (c_spec_ApplyChanges cat hc lines hl xs hx _ ⟨fun _ => rfl, fun h => absurd hA h⟩) ?_
    conv => whnf
    rw [bEq_self]
    conv => whnf
    refine NeedK_intro (by omega) ?_
    conv => whnf
    rw [half]
    refine WrK_i64 (by omega) (by omega) ?_
    conv => whnf
    refine slT _ ?_
    conv => whnf
    refine CallK_intro (c_impl_ApplyChanges cat hc lines hl (xs.take k) (hxT k) _ ⟨fun _ => rfl, fun h => absurd hT h⟩) ?_
    conv => whnf
    refine slD _ ?_
    conv => whnf
    refine CallK_intro (c_impl_ApplyChanges cat hc _ hto (xs.drop k) (hxD k) _ ⟨fun _ => rfl, fun h => absurd hD h⟩) ?_
    conv => whnf
    rw [bEq_self]
    conv => whnf
    rw [← hcut]
    refine CallK_tr (c_laws_sameLines _ hao _ hao) (fun _ => ?_) (fun h => absurd rfl h)
    conv => whnf
  · refine CallK_intro (c_impl_ApplyChanges cat hc lines hl xs hx _ ⟨fun h => absurd h hA, fun _ => rfl⟩) ?_
    conv => whnf
    refine CallK_intro (c_spec_ApplyChanges cat hc lines hl xs hx _ ⟨fun h => absurd h hA, fun _ => rfl⟩) ?_
    conv => whnf
    rw [bEq_self]
    conv => whnf
    refine NeedK_intro (by omega) ?_
    conv => whnf
    rw [half]
    refine WrK_i64 (by omega) (by omega) ?_
    conv => whnf
    refine slT _ ?_
    conv => whnf
    rcases Classical.em (applysP cat lines (xs.take k)) with hT | hT
    · have hD : ¬ applysP cat (appsN (xs.take k) lines) (xs.drop k) := fun h => hA ((applys_cut hk3 hT).2 ⟨h, by omega⟩)
      have hto := apps_ok hl (hxT k) hT (xs.take k).length (Nat.le_refl _)
      rw [List.take_of_length_le (Nat.le_refl _)] at hto
      refine CallK_intro (c_impl_ApplyChanges cat hc lines hl (xs.take k) (hxT k) _ ⟨fun _ => rfl, fun h => absurd hT h⟩) ?_
      conv => whnf
      refine slD _ ?_
      conv => whnf
      refine CallK_intro (c_impl_ApplyChanges cat hc _ hto (xs.drop k) (hxD k) _ ⟨fun h => absurd h hD, fun _ => rfl⟩) ?_
      conv => whnf
      rw [bEq_self]
      conv => whnf
      refine CallK_tr (c_laws_sameLines [] hnil [] hnil) (fun _ => ?_) (fun h => absurd rfl h)
      conv => whnf
    · refine CallK_intro (c_impl_ApplyChanges cat hc lines hl (xs.take k) (hxT k) _ ⟨fun h => absurd h hT, fun _ => rfl⟩) ?_
      conv => whnf
      refine slD _ ?_
      conv => whnf
      rcases Classical.em (applysP cat [] (xs.drop k)) with hD | hD
      · refine CallK_intro (c_impl_ApplyChanges cat hc [] hnil (xs.drop k) (hxD k) _ ⟨fun _ => rfl, fun h => absurd hD h⟩) ?_
        conv => whnf
        rfl
      · refine CallK_intro (c_impl_ApplyChanges cat hc [] hnil (xs.drop k) (hxD k) _ ⟨fun h => absurd h hD, fun _ => rfl⟩) ?_
        conv => whnf
        rfl


theorem bytes_dec {x : D} (h : HasTy (.sl .u8) x) : ∃ b : List Int, x = lD yD b ∧ b.length ≤ 9223372036854775807 ∧ ∀ n ∈ b, 0 ≤ n ∧ n ≤ 255 := by
  obtain ⟨b, e, h1, h2⟩ := sl_dec (f := yD) (ok := fun n => 0 ≤ n ∧ n ≤ 255) (e := .u8) (fun y hy => by cases hy with | u8 n lo hi => exact ⟨n, rfl, lo, hi⟩) h
  exact ⟨b, e, h1, h2⟩
theorem law_FnChangesJoined : ∀ xs, HasTys [.sl .u8] xs → Contract Try.prog 10 (xs.map .d) (.one (.d (.sc (.bool true)))) := by
  intro xs h
  obtain ⟨d0, r0, rfl, h0, g0⟩ := HasTys_cons h
  cases HasTys_nil g0
  obtain ⟨b, rfl, hb1, hb2⟩ := bytes_dec h0
  exact law0_FnChangesJoined b hb1 hb2
end Go.DL
namespace Go.Proofs.Ytjhjedfnjimflaa
open Go.ChangeShapes Go.WideShapes Go.ChangeAt Go.RowKit
theorem Try.cpD : Try.checked.prog = Try.prog := by kernel_rfl
theorem Try.ownD : ownKnob Try.checked.prog.godebug = none := by kernel_rfl
theorem Try.laidOutD : laidOutB Try.checked.prog = true := by kernel_rfl
theorem Try.lawD : ∀ xs, DL.HasTys [.sl .u8] xs → DL.Contract Try.checked.prog 10 (xs.map .d) (.one (.d (.sc (.bool true)))) := by rw [Try.cpD]; exact DL.law_FnChangesJoined
theorem fnChangesJoined_lifted (os : Os) (started : os.Started) (H : Type) (enc : TypeId × Value → H) :
    ReturnsInHanded {} Try.checked os 10 .any (Rows.fnChangesJoinedSpec.pre6 enc Try.checked.prog Try.f10 Rows.fnChangesJoinedRow.domain false) (Rows.fnChangesJoinedSpec.post enc Try.checked.prog Try.f10 false true false false) := by
  refine returnsInHanded_of_change (C := Try.checked) Try.ownD started (by kernel_rfl) Try.func10
    (ChangeSpec.witness6 (enc := enc) (C := Try.checked) false ⟨#[], #[.slice none 0 0], []⟩ 8 (by kernel_rfl) (by kernel_rfl) (by kernel_rfl) (by kernel_rfl)) ?_
  intro W base args ds gs before hval0 hW0 _ _
  exact DL.law_calls (P := Try.checked.prog) (fn := Try.f10) (s := Rows.fnChangesJoinedSpec) (ts := [22]) (tb := 4) (tys := [.sl .u8]) (by kernel_rfl) (by kernel_rfl) (by kernel_rfl) rfl
    (fun ds h => match ds, h with | [d0], _ => rfl) Try.laidOutD (by kernel_rfl) Try.lawD W base args ds gs before @hval0 hW0
/-- The law returns true, whatever comes in. -/
theorem FnChangesJoined_holds : Rows.FnChangesJoinedSaid :=
  OpenClaim.holds_of_wide 10 Try.f10 rfl rfl rfl rfl rfl rfl rfl ⟨rfl, rfl, rfl, rfl, rfl⟩ rfl rfl rfl rfl rfl (by kernel_rfl) Try.func10 (by kernel_rfl)
    (of_decide_eq_true (by kernel_rfl)) (by unfold Func.isWrapper; first | (rw [if_pos (by decide +kernel)]; kernel_rfl) | (rw [if_neg (by decide +kernel)]; exact ⟨rfl, rfl⟩))
    (fun os started H enc _ => fnChangesJoined_lifted os started H enc)
end Go.Proofs.Ytjhjedfnjimflaa
namespace Go.DL

end Go.DL
