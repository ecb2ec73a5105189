/- The statement FnExactLevelsSaid: the law returns true for every input that can be read as data, and each argument reads afterwards as it read before. No conditions. -/
import Derived.Test.YtjhjedfnjimflaaM
import Derived.Test.YtjhjedfnjimflaaP5
import Derived.ProofKit
namespace Go.DL
set_option maxRecDepth 100000
set_option maxHeartbeats 2000000
set_option linter.unusedSimpArgs false
set_option linter.unusedVariables false
open Go.RowKit Go.Proofs Go.Proofs.Ytjhjedfnjimflaa

noncomputable def barrF (n : Nat) (p : Nat → Prop) : List D := (List.range n).map (fun j => bD (tr (p j)))
theorem barrF_len (n : Nat) (f : Nat → Prop) : (barrF n f).length = n := by simp [barrF]
theorem barrF_get {n i : Nat} {f : Nat → Prop} (h : i < n) : (barrF n f)[i]? = some (bD (tr (f i))) := by simp [barrF, h]
theorem barrF_rep (n : Nat) : List.replicate n (bD false) = barrF n (fun _ => False) := by
  apply List.ext_getElem?
  intro i
  by_cases h : i < n
  · rw [barrF_get h, tr_f (fun h => h)]; simp [h]
  · rw [List.getElem?_eq_none (by simp; omega), List.getElem?_eq_none (by rw [barrF_len]; omega)]
theorem barrF_set {n i : Nat} {f g : Nat → Prop} (h : ∀ j, g j ↔ f j ∨ j = i) : (barrF n f).set i (bD true) = barrF n g := by
  apply List.ext_getElem?
  intro j
  rw [List.getElem?_set]
  by_cases hj : j < n
  · rw [barrF_get (f := g) hj]
    by_cases e : i = j
    · subst e; rw [if_pos rfl, if_pos (by rw [barrF_len]; exact hj), tr_t ((h i).2 (.inr rfl))]
    · rw [if_neg e, barrF_get (f := f) hj, tr_congr (p := g j) (q := f j) ((h j).trans ⟨fun h => h.resolve_right (fun h => e h.symm), .inl⟩)]
  · rw [List.getElem?_eq_none (l := barrF n g) (by rw [barrF_len]; omega)]
    split
    · rw [if_neg (by rw [barrF_len]; omega)]
    · rw [List.getElem?_eq_none (by rw [barrF_len]; omega)]
def partBefore (cat : List ItemV) (lines : List LineV) (i j : Nat) : Prop := ∃ x ∈ lines.take i, (idxOf cat x.part).toNat = j
set_option maxHeartbeats 4000000 in
theorem law0_FnLevels (b : List Int) (hb1 : b.length ≤ 9223372036854775807) (hb2 : ∀ n ∈ b, 0 ≤ n ∧ n ≤ 255) : Contract Try.prog 7 [.d (lD yD b)] (.one (.d (.sc (.bool true)))) := by
  refine contract_byR [200000 + 42] hma hTa Try.func7 (by kernel_rfl) (by kernel_rfl) ?_
  conv => whnf
  refine CallK_tr (c_laws_big b hb1) (fun h => ?_) (fun h => ?_) <;> conv => whnf
  refine DCallK_intro (c_spec_DrawLevelsOf b (by omega) hb2) ?_
  rintro r _ ⟨cat, lines, hc, hc6, hl, hl20, rfl⟩
  conv => whnf
  have e1 : (List.map ItemV.dat cat).length = cat.length := List.length_map _
  have e2 : (List.map LineV.dat lines).length = lines.length := List.length_map _
  rcases Classical.em (isBillsP cat lines) with hB | hB
  rotate_left
  · refine CallK_intro (c_impl_LevelsOf_n cat hc lines hl hB) ?_
    conv => whnf
    refine CallK_tr (c_spec_IsBills _ hc _ hl) (fun h => absurd h hB) (fun _ => ?_)
    conv => whnf
    refine CallK_tr (c_spec_IsBills _ hc _ hl) (fun h => absurd h hB) (fun _ => ?_)
    conv => whnf
    exact congrArg (fun b => D.sc (.bool b)) (eqB_iff.2 rfl)
  refine CallK_intro (c_impl_LevelsOf_y cat hc lines hl hB) ?_
  conv => whnf
  refine CallK_tr (c_spec_IsBills _ hc _ hl) (fun _ => ?_) (fun h => absurd hB h)
  conv => whnf
  have hin := linesIn_of hB.2.2.1
  have hst := passL_fix (l := edgesOf cat lines) (f := levOf cat lines) hB.2.2.2
  have hti := tight_lev (edgesOf cat lines) cat.length
  change tightL (edgesOf cat lines) (levOf cat lines) at hti
  generalize levOf cat lines = lev at hst hti ⊢
  have eL := arrF_len cat.length lev
  refine brNEq (fun _ => ?_) (fun h => absurd (show ((arrF cat.length lev).length : Int) = ((List.map ItemV.dat cat).length : Int) by omega) h)
  conv => whnf
  refine MkK_intro cat.length (by omega) (by omega) (by omega) ?_
  conv => whnf
  refine LoopK_intro hma hTa [(3, .pl), (4, .pl), (5, .fz), (6, .key 43), (7, .pl)] (fun i : Nat => ⟨[(3, .d (lD ItemV.dat cat)), (4, .d (lD LineV.dat lines)), (5, .d (.sl (arrF cat.length lev))), (6, .av 43 cat.length), (7, .d (iD i))], [(43, some ⟨4, 1, barrF cat.length (partBefore cat lines i)⟩)], []⟩) (fun i => i ≤ lines.length) (fun i => lines.length - i) (by kernel_rfl) ?_ ?_
  · conv => whnf
    refine takeK_full rfl ?_
    conv => whnf
    refine ⟨0, by omega, ?_⟩
    have e3 : barrF cat.length (partBefore cat lines 0) = List.replicate cat.length (bD false) := by
      rw [barrF_rep]
      unfold barrF
      refine List.map_congr_left fun j _ => ?_
      rw [tr_f (fun h => by obtain ⟨x, hx, _⟩ := h; simp at hx), tr_f (fun h => h)]
    dsimp only
    rw [e3]; rfl
  · intro i hi
    conv => whnf
    refine brLt (fun h1 => ?_) (fun h1 => ?_) <;> conv => whnf
    · refine IxK_mapLt _ rfl (by omega) (fun x hx => ?_)
      conv => whnf
      have hil := get_lt hx
      have hxi := hin x (get_mem hx)
      obtain ⟨hp, hpl⟩ := idx_nat hxi.1
      obtain ⟨hq, hql⟩ := idx_nat hxi.2
      have hlt := hst _ (List.mem_map.2 ⟨x, get_mem hx, rfl⟩)
      dsimp only at hlt
      refine CallK_intro (c_spec_FindItem _ hc _) ?_
      conv => whnf
      refine IxK_map _ rfl hx ?_
      conv => whnf
      refine CallK_intro (c_spec_FindItem _ hc _) ?_
      conv => whnf
      refine IxA_intro _ hq hql ?_
      conv => whnf
      refine setK_intro (xs' := barrF cat.length (partBefore cat lines (i + 1))) (by rw [barrF_len]; exact hql) (Eq.symm (barrF_set fun j => ?_)) ?_
      · unfold partBefore
        rw [take_snoc hx]
        constructor
        · rintro ⟨y, hy, h2⟩
          rcases List.mem_append.1 hy with h3 | h3
          · exact .inl ⟨y, h3, h2⟩
          · simp at h3; subst h3; exact .inr h2.symm
        · rintro (⟨y, hy, h2⟩ | rfl)
          · exact ⟨y, List.mem_append_left _ hy, h2⟩
          · exact ⟨x, by simp, rfl⟩
      conv => whnf
      refine IxK_arrF _ hp hpl ?_
      conv => whnf
      refine IxK_arrF _ hq hql ?_
      conv => whnf
      refine brLe (fun h2 => absurd h2 (by omega)) (fun _ => ?_)
      conv => whnf
      refine WrK_i64 (by omega) (by omega) ?_
      conv => whnf
      exact ⟨i + 1, hil, Nat.sub_lt_sub_left hil (Nat.lt_succ_self i), rfl⟩
    · have hpart : ∀ j, partBefore cat lines i j ↔ ¬ lev j = 0 := fun j => by
        unfold partBefore
        rw [List.take_of_length_le (by omega)]
        constructor
        · rintro ⟨x, hx, rfl⟩
          have h2 := hst _ (List.mem_map.2 ⟨x, hx, rfl⟩)
          have h3 := hti.1 (idxOf cat x.parent).toNat
          dsimp only at h2
          omega
        · intro h2
          obtain ⟨e, he, h3, _⟩ := hti.2 j (by have := hti.1 j; omega)
          obtain ⟨x, hx, rfl⟩ := List.mem_map.1 he
          exact ⟨x, hx, h3⟩
      refine LoopK_intro hma hTa [(3, .pl), (5, .pl), (6, .fz), (10, .pl)] (fun k : Nat => ⟨[(3, .d (lD ItemV.dat cat)), (5, .d (.sl (arrF cat.length lev))), (6, .d (.sl (barrF cat.length (partBefore cat lines i)))), (10, .d (iD k))], [], []⟩) (fun k => k ≤ cat.length) (fun k => cat.length - k) (by kernel_rfl) ?_ ?_
      · conv => whnf
        refine takeK_full (barrF_len _ _).symm ?_
        conv => whnf
        exact ⟨0, by omega, rfl⟩
      · intro k hk
        conv => whnf
        refine brLt (fun h4 => ?_) (fun h4 => ?_) <;> conv => whnf
        · have hkl : k < cat.length := by omega
          refine IxK_intro k rfl (barrF_get hkl) ?_
          conv => whnf
          refine IxK_arrF k rfl hkl ?_
          conv => whnf
          refine brBEq (fun h5 => ?_) (fun h5 => ?_) <;> conv => whnf
          · exfalso
            have h6 := hpart k
            rcases Classical.em (lev k = 0) with h7 | h7
            · rw [tr_f (fun h => h6.1 h h7), eqB_iff.2 h7] at h5; cases h5
            · have h8 : eqB (lev k) 0 = false := by
                cases h9 : eqB (lev k) 0 with
                | false => rfl
                | true => exact absurd (eqB_iff.1 h9) h7
              rw [tr_t (h6.2 h7), h8] at h5; cases h5
          · refine WrK_i64 (by omega) (by omega) ?_
            conv => whnf
            exact ⟨k + 1, hkl, Nat.sub_lt_sub_left hkl (Nat.lt_succ_self k), rfl⟩
        · have : D.sc (.bool (eqB ((arrF cat.length lev).length : Int) ((List.map ItemV.dat cat).length : Int))) = D.sc (.bool true) := by rw [eqB_iff.2 (by omega)]
          exact this


theorem bytes_dec {x : D} (h : HasTy (.sl .u8) x) : ∃ b : List Int, x = lD yD b ∧ b.length ≤ 9223372036854775807 ∧ ∀ n ∈ b, 0 ≤ n ∧ n ≤ 255 := by
  obtain ⟨b, e, h1, h2⟩ := sl_dec (f := yD) (ok := fun n => 0 ≤ n ∧ n ≤ 255) (e := .u8) (fun y hy => by cases hy with | u8 n lo hi => exact ⟨n, rfl, lo, hi⟩) h
  exact ⟨b, e, h1, h2⟩
theorem law_FnLevels : ∀ xs, HasTys [.sl .u8] xs → Contract Try.prog 7 (xs.map .d) (.one (.d (.sc (.bool true)))) := by
  intro xs h
  obtain ⟨d0, r0, rfl, h0, g0⟩ := HasTys_cons h
  cases HasTys_nil g0
  obtain ⟨b, rfl, hb1, hb2⟩ := bytes_dec h0
  exact law0_FnLevels b hb1 hb2
end Go.DL
namespace Go.Proofs.Ytjhjedfnjimflaa
open Go.ChangeShapes Go.WideShapes Go.ChangeAt Go.RowKit
theorem Try.cpD : Try.checked.prog = Try.prog := by kernel_rfl
theorem Try.ownD : ownKnob Try.checked.prog.godebug = none := by kernel_rfl
theorem Try.laidOutD : laidOutB Try.checked.prog = true := by kernel_rfl
theorem Try.lawD : ∀ xs, DL.HasTys [.sl .u8] xs → DL.Contract Try.checked.prog 7 (xs.map .d) (.one (.d (.sc (.bool true)))) := by rw [Try.cpD]; exact DL.law_FnLevels
theorem fnLevels_lifted (os : Os) (started : os.Started) (H : Type) (enc : TypeId × Value → H) :
    ReturnsInHanded {} Try.checked os 7 .any (Rows.fnLevelsSpec.pre6 enc Try.checked.prog Try.f7 Rows.fnLevelsRow.domain false) (Rows.fnLevelsSpec.post enc Try.checked.prog Try.f7 false true false false) := by
  refine returnsInHanded_of_change (C := Try.checked) Try.ownD started (by kernel_rfl) Try.func7
    (ChangeSpec.witness6 (enc := enc) (C := Try.checked) false ⟨#[], #[.slice none 0 0], []⟩ 8 (by kernel_rfl) (by kernel_rfl) (by kernel_rfl) (by kernel_rfl)) ?_
  intro W base args ds gs before hval0 hW0 _ _
  exact DL.law_calls (P := Try.checked.prog) (fn := Try.f7) (s := Rows.fnLevelsSpec) (ts := [22]) (tb := 4) (tys := [.sl .u8]) (by kernel_rfl) (by kernel_rfl) (by kernel_rfl) rfl
    (fun ds h => match ds, h with | [d0], _ => rfl) Try.laidOutD (by kernel_rfl) Try.lawD W base args ds gs before @hval0 hW0
/-- The law returns true, whatever comes in. -/
theorem FnLevels_holds : Rows.FnLevelsSaid :=
  OpenClaim.holds_of_wide 7 Try.f7 rfl rfl rfl rfl rfl rfl rfl ⟨rfl, rfl, rfl, rfl, rfl⟩ rfl rfl rfl rfl rfl (by kernel_rfl) Try.func7 (by kernel_rfl)
    (of_decide_eq_true (by kernel_rfl)) (by unfold Func.isWrapper; first | (rw [if_pos (by decide +kernel)]; kernel_rfl) | (rw [if_neg (by decide +kernel)]; exact ⟨rfl, rfl⟩))
    (fun os started H enc _ => fnLevels_lifted os started H enc)
end Go.Proofs.Ytjhjedfnjimflaa
namespace Go.DL

end Go.DL
