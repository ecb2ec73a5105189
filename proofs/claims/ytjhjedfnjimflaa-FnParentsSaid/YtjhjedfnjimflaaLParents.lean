/- The statement FnExactParentsSaid: the law returns true for every input that can be read as data, and each argument reads afterwards as it read before. No conditions. -/
import Derived.Test.YtjhjedfnjimflaaM
import Derived.Test.YtjhjedfnjimflaaP8
import Derived.ProofKit
namespace Go.DL
set_option maxRecDepth 100000
set_option maxHeartbeats 2000000
set_option linter.unusedSimpArgs false
set_option linter.unusedVariables false
open Go.RowKit Go.Proofs Go.Proofs.Ytjhjedfnjimflaa

set_option maxHeartbeats 4000000 in
theorem law0_FnParents (b : List Int) (hb1 : b.length ≤ 9223372036854775807) (hb2 : ∀ n ∈ b, 0 ≤ n ∧ n ≤ 255) : Contract Try.prog 8 [.d (lD yD b)] (.one (.d (.sc (.bool true)))) := by
  refine contract_byR [200000 + 45] hma hTa Try.func8 (by kernel_rfl) (by kernel_rfl) ?_
  conv => whnf
  refine CallK_tr (c_laws_big b hb1) (fun h => ?_) (fun h => ?_) <;> conv => whnf
  refine DCallK_intro (c_spec_DrawParentsOf b (by omega) hb2) ?_
  rintro r _ ⟨cat, lines, part, day, ch, hc, hc6, hl, hl20, hs, hday, hch, rfl⟩
  conv => whnf
  have e1 : (List.map ItemV.dat cat).length = cat.length := List.length_map _
  have e2 : (List.map LineV.dat lines).length = lines.length := List.length_map _
  rcases Classical.em (isBillsP cat lines) with hB | hB
  rotate_left
  · refine CallK_intro (c_impl_ParentsOf_n cat hc lines hl part day ch hB) ?_
    conv => whnf
    refine LoopK_intro hma hTa [(3, .pl), (4, .pl), (5, .pl), (6, .pl), (7, .pl), (8, .fz), (9, .pl)] (fun _ : Nat => ⟨[(3, .d (lD ItemV.dat cat)), (4, .d (lD LineV.dat lines)), (5, .d (sD part)), (6, .d (iD day)), (7, .d (lD PickV.dat ch)), (8, .d (.sl [])), (9, .d (iD 0))], [], []⟩) (fun _ => True) (fun i => i) (by kernel_rfl) ?_ ?_
    · conv => whnf
      exact ⟨0, trivial, rfl⟩
    · intro i _
      conv => whnf
      have tail : ∀ K : Prop, K → K := fun _ h => h
      refine brLt (fun h => ?_) (fun h => ?_) <;> conv => whnf
      · refine CallK_tr (c_spec_IsBills _ hc _ hl) (fun h => absurd h hB) (fun _ => ?_)
        conv => whnf
        refine CallK_tr (c_spec_IsBills _ hc _ hl) (fun h => absurd h hB) (fun _ => ?_)
        conv => whnf
        refine brEq (fun h => ?_) (fun h => absurd rfl h)
        conv => whnf
        refine CallK_intro (c_spec_ParentsOf_n cat hc lines hl part day ch hB) ?_
        conv => whnf
        exact congrArg (fun b => D.sc (.bool b)) (eqB_iff.2 rfl)
      · refine CallK_tr (c_spec_IsBills _ hc _ hl) (fun h => absurd h hB) (fun _ => ?_)
        conv => whnf
        refine brEq (fun h => ?_) (fun h => absurd rfl h)
        conv => whnf
        refine CallK_intro (c_spec_ParentsOf_n cat hc lines hl part day ch hB) ?_
        conv => whnf
        exact congrArg (fun b => D.sc (.bool b)) (eqB_iff.2 rfl)
  refine CallK_intro (c_impl_ParentsOf_y cat hc lines hl part day ch hch hB) ?_
  conv => whnf
  have hpl : (parentsN cat lines part day ch).length ≤ 12 := by
    unfold parentsN
    rw [List.length_map]
    exact Nat.le_trans (keep_len _ _) hB.1.2
  have hpo : okL okS (parentsN cat lines part day ch) := ⟨by omega, fun s hs => by
    unfold parentsN at hs
    obtain ⟨it, h1, rfl⟩ := List.mem_map.1 hs
    exact (hc.2 it (keep_mem.1 h1).1).1⟩
  have hpm : ∀ it ∈ cat, it.code ∈ parentsN cat lines part day ch ↔ ∃ x ∈ linesN day ch it.code lines, x.part = part := fun it hit => by
    unfold parentsN linesN
    constructor
    · intro hs
      obtain ⟨it2, h1, h2⟩ := List.mem_map.1 hs
      obtain ⟨x, hx, h3, h4, h5⟩ := (keep_mem.1 h1).2
      exact ⟨x, keep_mem.2 ⟨hx, h3.trans h2, h5⟩, h4⟩
    · rintro ⟨x, hx, h4⟩
      obtain ⟨h1, h2, h3⟩ := keep_mem.1 hx
      exact List.mem_map.2 ⟨it, keep_mem.2 ⟨hit, x, h1, h2, h4, h3⟩, rfl⟩
  generalize hps : parentsN cat lines part day ch = ps at hpl hpo hpm ⊢
  have e3 : (List.map sD ps).length = ps.length := List.length_map _
  refine LoopK_intro hma hTa [(3, .pl), (4, .pl), (5, .pl), (6, .pl), (7, .pl), (8, .fz), (9, .pl)] (fun i : Nat => ⟨[(3, .d (lD ItemV.dat cat)), (4, .d (lD LineV.dat lines)), (5, .d (sD part)), (6, .d (iD day)), (7, .d (lD PickV.dat ch)), (8, .d (lD sD ps)), (9, .d (iD i))], [], []⟩) (fun i => i ≤ cat.length) (fun i => cat.length - i) (by kernel_rfl) ?_ ?_
  · conv => whnf
    refine takeK_full rfl ?_
    conv => whnf
    exact ⟨0, by omega, rfl⟩
  · intro i hi
    conv => whnf
    refine brLt (fun h => ?_) (fun h => ?_) <;> conv => whnf
    · refine CallK_tr (c_spec_IsBills _ hc _ hl) (fun _ => ?_) (fun h => absurd hB h)
      conv => whnf
      refine IxK_mapLt _ rfl (by omega) (fun it hit => ?_)
      conv => whnf
      have hil := get_lt hit
      refine CallK_intro (c_impl_LinesOf_y cat hc lines hl it.code day ch hch hB) ?_
      conv => whnf
      have hll : (linesN day ch it.code lines).length ≤ lines.length := keep_len _ _
      have hlm : ∀ x ∈ linesN day ch it.code lines, x.ok ∧ x.parent = it.code ∧ onP day ch x := fun x hx => ⟨hl.2 x (keep_mem.1 hx).1, (keep_mem.1 hx).2.1, (keep_mem.1 hx).2.2⟩
      have hpm2 := hpm it (get_mem hit)
      generalize linesN day ch it.code lines = xs at hll hlm hpm2 ⊢
      have e4 : (List.map LineV.dat xs).length = xs.length := List.length_map _
      refine LoopK_intro hma hTa [(3, .pl), (4, .pl), (5, .pl), (6, .pl), (7, .pl), (8, .pl), (9, .pl), (10, .pl), (11, .fz), (12, .pl)] (fun k : Nat => ⟨[(3, .d (lD ItemV.dat cat)), (4, .d (lD LineV.dat lines)), (5, .d (sD part)), (6, .d (iD day)), (7, .d (lD PickV.dat ch)), (8, .d (lD sD ps)), (9, .d (iD i)), (10, .d (bD (tr (∃ x ∈ xs.take k, x.part = part)))), (11, .d (lD LineV.dat xs)), (12, .d (iD k))], [], []⟩) (fun k => k ≤ xs.length) (fun k => xs.length - k) (by kernel_rfl) ?_ ?_
      · conv => whnf
        refine takeK_full rfl ?_
        conv => whnf
        exact ⟨0, by omega, by rw [tr_f ex_take_zero]; rfl⟩
      · intro k hk
        conv => whnf
        refine brLt (fun h2 => ?_) (fun h2 => ?_) <;> conv => whnf
        · have hkl2 : k < xs.length := by omega
          obtain ⟨x, hx⟩ : ∃ x, xs[k]? = some x := ⟨xs[k], by simp [hkl2]⟩
          obtain ⟨hxo, hxp, hon⟩ := hlm x (get_mem hx)
          have hst := hon.1
          have hsp := hon.2.1
          have hsx := ex_take_succ (p := fun x : LineV => x.part = part) hx
          have next : ∀ b : Bool, (b = true ↔ ∃ y ∈ xs.take (k + 1), y.part = part) → ∃ a : Nat, a ≤ xs.length ∧ xs.length - a < xs.length - k ∧ (⟨[(3, .d (lD ItemV.dat cat)), (4, .d (lD LineV.dat lines)), (5, .d (sD part)), (6, .d (iD day)), (7, .d (lD PickV.dat ch)), (8, .d (lD sD ps)), (9, .d (iD i)), (10, .d (bD b)), (11, .d (lD LineV.dat xs)), (12, .d (iD ((k : Int) + 1)))], [], []⟩ : St) = ⟨[(3, .d (lD ItemV.dat cat)), (4, .d (lD LineV.dat lines)), (5, .d (sD part)), (6, .d (iD day)), (7, .d (lD PickV.dat ch)), (8, .d (lD sD ps)), (9, .d (iD i)), (10, .d (bD (tr (∃ x ∈ xs.take a, x.part = part)))), (11, .d (lD LineV.dat xs)), (12, .d (iD a))], [], []⟩ :=
            fun b hb => ⟨k + 1, hkl2, Nat.sub_lt_sub_left hkl2 (Nat.lt_succ_self k), by rw [tr_bool hb]; rfl⟩
          refine brTr (fun h3 => ?_) (fun h3 => ?_) <;> conv => whnf
          · refine IxK_map k rfl hx ?_
            conv => whnf
            refine IxK_map i rfl hit ?_
            conv => whnf
            refine brNStr (fun _ => ?_) (fun h => absurd hxp h)
            conv => whnf
            refine IxK_map k rfl hx ?_
            conv => whnf
            refine brLt (fun h => absurd h (by omega)) (fun _ => ?_)
            conv => whnf
            refine IxK_map k rfl hx ?_
            conv => whnf
            refine brLt (fun h => absurd h (by omega)) (fun _ => ?_)
            conv => whnf
            refine IxK_map k rfl hx ?_
            conv => whnf
            refine CallK_tr (c_spec_Holds _ hxo.2.2.2.2.2 ch hch) (fun _ => ?_) (fun h => absurd hon.2.2 h)
            conv => whnf
            refine WrK_i64 (by omega) (by omega) ?_
            conv => whnf
            exact next true ⟨fun _ => hsx.2 (.inl h3), fun _ => rfl⟩
          · refine IxK_map k rfl hx ?_
            conv => whnf
            refine IxK_map k rfl hx ?_
            conv => whnf
            refine IxK_map i rfl hit ?_
            conv => whnf
            refine brNStr (fun _ => ?_) (fun h => absurd hxp h)
            conv => whnf
            refine IxK_map k rfl hx ?_
            conv => whnf
            refine brLt (fun h => absurd h (by omega)) (fun _ => ?_)
            conv => whnf
            refine IxK_map k rfl hx ?_
            conv => whnf
            refine brLt (fun h => absurd h (by omega)) (fun _ => ?_)
            conv => whnf
            refine IxK_map k rfl hx ?_
            conv => whnf
            refine CallK_tr (c_spec_Holds _ hxo.2.2.2.2.2 ch hch) (fun _ => ?_) (fun h => absurd hon.2.2 h)
            conv => whnf
            refine WrK_i64 (by omega) (by omega) ?_
            conv => whnf
            refine next _ (strEq_iff.trans ⟨fun h => hsx.2 (.inr h), fun h => (hsx.1 h).elim (fun h => absurd h h3) id⟩)
        · rw [List.take_of_length_le (l := xs) (by omega)]
          refine IxK_map i rfl hit ?_
          conv => whnf
          refine CallK_intro (c_laws_hasText ps hpo it.code) ?_
          conv => whnf
          rw [tr_congr hpm2]
          refine brNBEq (fun _ => ?_) (fun h => absurd rfl h)
          conv => whnf
          refine WrK_i64 (by omega) (by omega) ?_
          conv => whnf
          exact ⟨i + 1, hil, Nat.sub_lt_sub_left hil (Nat.lt_succ_self i), rfl⟩
    · refine CallK_tr (c_spec_IsBills _ hc _ hl) (fun _ => ?_) (fun h => absurd hB h)
      conv => whnf
      refine CallK_intro (c_spec_ParentsOf_y cat hc lines hl part day ch hch hB) ?_
      conv => whnf
      rw [hps]
      exact congrArg (fun b => D.sc (.bool b)) (eqB_iff.2 rfl)


theorem bytes_dec {x : D} (h : HasTy (.sl .u8) x) : ∃ b : List Int, x = lD yD b ∧ b.length ≤ 9223372036854775807 ∧ ∀ n ∈ b, 0 ≤ n ∧ n ≤ 255 := by
  obtain ⟨b, e, h1, h2⟩ := sl_dec (f := yD) (ok := fun n => 0 ≤ n ∧ n ≤ 255) (e := .u8) (fun y hy => by cases hy with | u8 n lo hi => exact ⟨n, rfl, lo, hi⟩) h
  exact ⟨b, e, h1, h2⟩
theorem law_FnParents : ∀ xs, HasTys [.sl .u8] xs → Contract Try.prog 8 (xs.map .d) (.one (.d (.sc (.bool true)))) := by
  intro xs h
  obtain ⟨d0, r0, rfl, h0, g0⟩ := HasTys_cons h
  cases HasTys_nil g0
  obtain ⟨b, rfl, hb1, hb2⟩ := bytes_dec h0
  exact law0_FnParents b hb1 hb2
end Go.DL
namespace Go.Proofs.Ytjhjedfnjimflaa
open Go.ChangeShapes Go.WideShapes Go.ChangeAt Go.RowKit
theorem Try.cpD : Try.checked.prog = Try.prog := by kernel_rfl
theorem Try.ownD : ownKnob Try.checked.prog.godebug = none := by kernel_rfl
theorem Try.laidOutD : laidOutB Try.checked.prog = true := by kernel_rfl
theorem Try.lawD : ∀ xs, DL.HasTys [.sl .u8] xs → DL.Contract Try.checked.prog 8 (xs.map .d) (.one (.d (.sc (.bool true)))) := by rw [Try.cpD]; exact DL.law_FnParents
theorem fnParents_lifted (os : Os) (started : os.Started) (H : Type) (enc : TypeId × Value → H) :
    ReturnsInHanded {} Try.checked os 8 .any (Rows.fnParentsSpec.pre6 enc Try.checked.prog Try.f8 Rows.fnParentsRow.domain false) (Rows.fnParentsSpec.post enc Try.checked.prog Try.f8 false true false false) := by
  refine returnsInHanded_of_change (C := Try.checked) Try.ownD started (by kernel_rfl) Try.func8
    (ChangeSpec.witness6 (enc := enc) (C := Try.checked) false ⟨#[], #[.slice none 0 0], []⟩ 8 (by kernel_rfl) (by kernel_rfl) (by kernel_rfl) (by kernel_rfl)) ?_
  intro W base args ds gs before hval0 hW0 _ _
  exact DL.law_calls (P := Try.checked.prog) (fn := Try.f8) (s := Rows.fnParentsSpec) (ts := [22]) (tb := 4) (tys := [.sl .u8]) (by kernel_rfl) (by kernel_rfl) (by kernel_rfl) rfl
    (fun ds h => match ds, h with | [d0], _ => rfl) Try.laidOutD (by kernel_rfl) Try.lawD W base args ds gs before @hval0 hW0
/-- The law returns true, whatever comes in. -/
theorem FnParents_holds : Rows.FnParentsSaid :=
  OpenClaim.holds_of_wide 8 Try.f8 rfl rfl rfl rfl rfl rfl rfl ⟨rfl, rfl, rfl, rfl, rfl⟩ rfl rfl rfl rfl rfl (by kernel_rfl) Try.func8 (by kernel_rfl)
    (of_decide_eq_true (by kernel_rfl)) (by unfold Func.isWrapper; first | (rw [if_pos (by decide +kernel)]; kernel_rfl) | (rw [if_neg (by decide +kernel)]; exact ⟨rfl, rfl⟩))
    (fun os started H enc _ => fnParents_lifted os started H enc)
end Go.Proofs.Ytjhjedfnjimflaa
namespace Go.DL

end Go.DL
