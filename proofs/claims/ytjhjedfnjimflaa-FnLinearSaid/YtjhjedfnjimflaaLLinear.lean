/- The statement FnExactLinearSaid: the law returns true for every input that can be read as data, and each argument reads afterwards as it read before. No conditions. -/
import Derived.Test.YtjhjedfnjimflaaM
import Derived.Test.YtjhjedfnjimflaaPJ
import Derived.ProofKit
namespace Go.DL
set_option maxRecDepth 100000
set_option maxHeartbeats 2000000
set_option linter.unusedSimpArgs false
set_option linter.unusedVariables false
open Go.RowKit Go.Proofs Go.Proofs.Ytjhjedfnjimflaa

set_option maxHeartbeats 4000000 in
theorem law0_FnLinear (b : List Int) (hb1 : b.length ≤ 9223372036854775807) (hb2 : ∀ n ∈ b, 0 ≤ n ∧ n ≤ 255) : Contract Try.prog 11 [.d (lD yD b)] (.one (.d (.sc (.bool true)))) := by
  refine contract_byR [200000 + 55] hma hTa Try.func11 (by kernel_rfl) (by kernel_rfl) ?_
  conv => whnf
  refine CallK_tr (c_laws_big b hb1) (fun h => ?_) (fun h => ?_) <;> conv => whnf
  refine DCallK_intro (c_spec_DrawExplosion b (by omega) hb2) ?_
  rintro r _ ⟨cat, lines, s, q, day, ch, hc, hc6, hl, hl20, hs, hq, hq2, hday, hch, rfl⟩
  conv => whnf
  have e1 : (List.map ItemV.dat cat).length = cat.length := List.length_map _
  have hIy := fun {q : Int} (h : expP cat lines s q day ch (fun _ => True)) => c_impl_Explosion0 cat hc lines hl s q day ch hch _ ⟨fun _ => rfl, fun h2 => absurd h h2⟩
  have hIn := fun {q : Int} (h : ¬ expP cat lines s q day ch (fun _ => True)) => c_impl_Explosion0 cat hc lines hl s q day ch hch _ ⟨fun h2 => absurd h2 h, fun _ => rfl⟩
  have hSy := fun {q : Int} (h : expP cat lines s q day ch (fun _ => True)) => c_spec_Explosion0 cat hc lines hl s q day ch hch _ ⟨fun _ => rfl, fun h2 => absurd h h2⟩
  have hSn := fun {q : Int} (h : ¬ expP cat lines s q day ch (fun _ => True)) => c_spec_Explosion0 cat hc lines hl s q day ch hch _ ⟨fun h2 => absurd h2 h, fun _ => rfl⟩
  have hq3 : (0 ≤ q → 0 ≤ q.tdiv 3 ∧ q.tdiv 3 ≤ q) ∧ (q < 0 → q ≤ q.tdiv 3 ∧ q.tdiv 3 ≤ 0) := by
    refine ⟨fun h0 => ?_, fun h0 => ?_⟩
    · rw [Int.tdiv_eq_ediv_of_nonneg h0]; omega
    · rw [show q = -(-q) by omega, Int.neg_tdiv, Int.tdiv_eq_ediv_of_nonneg (by omega : 0 ≤ -q)]; omega
  obtain ⟨hqa, hqb⟩ := hq
  generalize q.tdiv 3 = p at hq3 ⊢
  refine NeedK_intro (by decide) ?_
  refine WrK_i64 (by omega) (by omega) ?_
  conv => whnf
  by_cases hE : expP cat lines s q day ch (fun _ => True)
  · have hq0 : 0 ≤ q ∧ q ≤ 100000 := hE.2.2.1
    have hE1 : expP cat lines s p day ch (fun _ => True) := expP_le hE (by omega) (by omega)
    have hE2 : expP cat lines s (q - p) day ch (fun _ => True) := expP_le hE (by omega) (by omega)
    refine CallK_intro (hIy hE) ?_
    conv => whnf
    refine CallK_intro (hSy hE) ?_
    conv => whnf
    refine brNBEq (fun _ => ?_) (fun h => absurd rfl h)
    conv => whnf
    refine CallK_intro (hIy hE1) ?_
    conv => whnf
    refine WrK_i64 (by omega) (by omega) ?_
    conv => whnf
    refine CallK_intro (hIy hE2) ?_
    conv => whnf
    have sm := fun {q : Int} (h : expP cat lines s q day ch (fun _ => True)) => expL_small (P := fun _ => True) h
    have s0 := sm hE
    have s1 := sm hE1
    have s2 := sm hE2
    have hsum : ∀ y ∈ cat, inN y.code (expL cat lines s q day ch (fun _ => True) (fun _ => True)) = inN y.code (expL cat lines s p day ch (fun _ => True) (fun _ => True)) + inN y.code (expL cat lines s (q - p) day ch (fun _ => True) (fun _ => True)) := fun y hy => by
      obtain ⟨i, hi⟩ := List.getElem?_of_mem hy
      rw [in_exp hE hi, in_exp hE1 hi, in_exp hE2 hi, ifP_t trivial, ifP_t trivial, ifP_t trivial]
      split
      · rfl
      · unfold expN
        rw [pieN_lin _ _ _ _ q, pieN_lin _ _ _ _ p, pieN_lin _ _ _ _ (q - p), ← Int.add_mul]
        congr 1; omega
    generalize expL cat lines s q day ch (fun _ => True) (fun _ => True) = l0 at s0 hsum ⊢
    generalize expL cat lines s p day ch (fun _ => True) (fun _ => True) = l1 at s1 hsum ⊢
    generalize expL cat lines s (q - p) day ch (fun _ => True) (fun _ => True) = l2 at s2 hsum ⊢
    have f0 : ∀ t, 0 ≤ inN t l0 ∧ inN t l0 ≤ 100 * 1000000000 := fun t => by have := in_bound (s := t) s0 l0.length (Nat.le_refl _); rw [List.take_length] at this; have := s0.1; omega
    have f1 : ∀ t, 0 ≤ inN t l1 ∧ inN t l1 ≤ 100 * 1000000000 := fun t => by have := in_bound (s := t) s1 l1.length (Nat.le_refl _); rw [List.take_length] at this; have := s1.1; omega
    have f2 : ∀ t, 0 ≤ inN t l2 ∧ inN t l2 ≤ 100 * 1000000000 := fun t => by have := in_bound (s := t) s2 l2.length (Nat.le_refl _); rw [List.take_length] at this; have := s2.1; omega
    refine LoopK_intro hma hTa [(3, .pl), (10, .fz), (14, .fz), (15, .pl), (16, .fz), (17, .pl), (18, .pl)] (fun i : Nat => ⟨[(3, .d (lD ItemV.dat cat)), (10, .d (lD NeedV.dat l0)), (14, .d (lD NeedV.dat l1)), (15, .d (bD true)), (16, .d (lD NeedV.dat l2)), (17, .d (bD true)), (18, .d (iD i))], [], []⟩) (fun i => i ≤ cat.length) (fun i => cat.length - i) (by kernel_rfl) ?_ ?_
    · conv => whnf
      refine takeK_full rfl ?_
      conv => whnf
      refine takeK_full rfl ?_
      conv => whnf
      refine takeK_full rfl ?_
      conv => whnf
      exact ⟨0, by omega, rfl⟩
    · intro i hi
      conv => whnf
      refine brLt (fun h => ?_) (fun h => ?_) <;> conv => whnf
      refine IxK_mapLt _ rfl (by omega) (fun y hy => ?_)
      conv => whnf
      have hil := get_lt hy
      have hsy := hsum y (get_mem hy)
      have g1 := f1 y.code
      have g2 := f2 y.code
      refine CallK_intro (c_laws_in l0 s0 y.code) ?_
      conv => whnf
      refine IxK_map _ rfl hy ?_
      conv => whnf
      refine CallK_intro (c_laws_in l1 s1 y.code) ?_
      conv => whnf
      refine IxK_map _ rfl hy ?_
      conv => whnf
      refine CallK_intro (c_laws_in l2 s2 y.code) ?_
      conv => whnf
      refine WrK_i64 (by omega) (by omega) ?_
      conv => whnf
      refine brNEq (fun h1 => ?_) (fun h1 => absurd hsy h1)
      conv => whnf
      refine WrK_i64 (by omega) (by omega) ?_
      conv => whnf
      exact ⟨i + 1, hil, Nat.sub_lt_sub_left hil (Nat.lt_succ_self i), rfl⟩
  · refine CallK_intro (hIn hE) ?_
    conv => whnf
    refine CallK_intro (hSn hE) ?_
    conv => whnf
    refine brNBEq (fun _ => ?_) (fun h => absurd rfl h)
    conv => whnf
    by_cases hE1 : expP cat lines s p day ch (fun _ => True)
    · refine CallK_intro (hIy hE1) ?_
      conv => whnf
      refine WrK_i64 (by omega) (by omega) ?_
      conv => whnf
      by_cases hE2 : expP cat lines s (q - p) day ch (fun _ => True)
      · refine CallK_intro (hIy hE2) ?_
        conv => whnf
        exact congrArg (fun b => D.sc (.bool b)) (eqB_iff.2 rfl)
      · refine CallK_intro (hIn hE2) ?_
        conv => whnf
        exact congrArg (fun b => D.sc (.bool b)) (eqB_iff.2 rfl)
    · refine CallK_intro (hIn hE1) ?_
      conv => whnf
      refine WrK_i64 (by omega) (by omega) ?_
      conv => whnf
      by_cases hE2 : expP cat lines s (q - p) day ch (fun _ => True)
      · refine CallK_intro (hIy hE2) ?_
        conv => whnf
        exact congrArg (fun b => D.sc (.bool b)) (eqB_iff.2 rfl)
      · refine CallK_intro (hIn hE2) ?_
        conv => whnf
        exact congrArg (fun b => D.sc (.bool b)) (eqB_iff.2 rfl)


theorem bytes_dec {x : D} (h : HasTy (.sl .u8) x) : ∃ b : List Int, x = lD yD b ∧ b.length ≤ 9223372036854775807 ∧ ∀ n ∈ b, 0 ≤ n ∧ n ≤ 255 := by
  obtain ⟨b, e, h1, h2⟩ := sl_dec (f := yD) (ok := fun n => 0 ≤ n ∧ n ≤ 255) (e := .u8) (fun y hy => by cases hy with | u8 n lo hi => exact ⟨n, rfl, lo, hi⟩) h
  exact ⟨b, e, h1, h2⟩
theorem law_FnLinear : ∀ xs, HasTys [.sl .u8] xs → Contract Try.prog 11 (xs.map .d) (.one (.d (.sc (.bool true)))) := by
  intro xs h
  obtain ⟨d0, r0, rfl, h0, g0⟩ := HasTys_cons h
  cases HasTys_nil g0
  obtain ⟨b, rfl, hb1, hb2⟩ := bytes_dec h0
  exact law0_FnLinear b hb1 hb2
end Go.DL
namespace Go.Proofs.Ytjhjedfnjimflaa
open Go.ChangeShapes Go.WideShapes Go.ChangeAt Go.RowKit
theorem Try.cpD : Try.checked.prog = Try.prog := by kernel_rfl
theorem Try.ownD : ownKnob Try.checked.prog.godebug = none := by kernel_rfl
theorem Try.laidOutD : laidOutB Try.checked.prog = true := by kernel_rfl
theorem Try.lawD : ∀ xs, DL.HasTys [.sl .u8] xs → DL.Contract Try.checked.prog 11 (xs.map .d) (.one (.d (.sc (.bool true)))) := by rw [Try.cpD]; exact DL.law_FnLinear
theorem fnLinear_lifted (os : Os) (started : os.Started) (H : Type) (enc : TypeId × Value → H) :
    ReturnsInHanded {} Try.checked os 11 .any (Rows.fnLinearSpec.pre6 enc Try.checked.prog Try.f11 Rows.fnLinearRow.domain false) (Rows.fnLinearSpec.post enc Try.checked.prog Try.f11 false true false false) := by
  refine returnsInHanded_of_change (C := Try.checked) Try.ownD started (by kernel_rfl) Try.func11
    (ChangeSpec.witness6 (enc := enc) (C := Try.checked) false ⟨#[], #[.slice none 0 0], []⟩ 8 (by kernel_rfl) (by kernel_rfl) (by kernel_rfl) (by kernel_rfl)) ?_
  intro W base args ds gs before hval0 hW0 _ _
  exact DL.law_calls (P := Try.checked.prog) (fn := Try.f11) (s := Rows.fnLinearSpec) (ts := [22]) (tb := 4) (tys := [.sl .u8]) (by kernel_rfl) (by kernel_rfl) (by kernel_rfl) rfl
    (fun ds h => match ds, h with | [d0], _ => rfl) Try.laidOutD (by kernel_rfl) Try.lawD W base args ds gs before @hval0 hW0
/-- The law returns true, whatever comes in. -/
theorem FnLinear_holds : Rows.FnLinearSaid :=
  OpenClaim.holds_of_wide 11 Try.f11 rfl rfl rfl rfl rfl rfl rfl ⟨rfl, rfl, rfl, rfl, rfl⟩ rfl rfl rfl rfl rfl (by kernel_rfl) Try.func11 (by kernel_rfl)
    (of_decide_eq_true (by kernel_rfl)) (by unfold Func.isWrapper; first | (rw [if_pos (by decide +kernel)]; kernel_rfl) | (rw [if_neg (by decide +kernel)]; exact ⟨rfl, rfl⟩))
    (fun os started H enc _ => fnLinear_lifted os started H enc)
end Go.Proofs.Ytjhjedfnjimflaa
namespace Go.DL

end Go.DL
