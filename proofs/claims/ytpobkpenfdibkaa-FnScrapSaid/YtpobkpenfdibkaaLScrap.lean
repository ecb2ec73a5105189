/- The statement FnExactScrapSaid: the law returns true for every input that can be read as data, and each argument reads afterwards as it read before. No conditions. -/
import Derived.Test.YtpobkpenfdibkaaM
import Derived.Test.YtpobkpenfdibkaaQ
import Derived.Test.YtpobkpenfdibkaaC
import Derived.Test.YtpobkpenfdibkaaB
import Derived.ProofKit
namespace Go.DL
set_option maxRecDepth 100000
set_option maxHeartbeats 2000000
set_option linter.unusedSimpArgs false
set_option linter.unusedVariables false
open Go.RowKit Go.Proofs Go.Proofs.Ytpobkpenfdibkaa

theorem scrap_math {q s : Int} (h0 : 0 ≤ q) (h1 : q ≤ 1000000000) (s0 : 0 ≤ s) (s1 : s ≤ 50) (g : Int) (hg : g = -(-(q * 100) / (100 - s))) :
    0 ≤ g ∧ g ≤ 2000000000 ∧ q ≤ (g * (100 - s)).tdiv 100 ∧ (g = 0 → q = 0) ∧ (0 < g → ((g - 1) * (100 - s)).tdiv 100 < q) := by
  have hd : 0 < 100 - s := by omega
  generalize he : 100 - s = d at hd hg
  have hd2 : 50 ≤ d ∧ d ≤ 100 := by omega
  have e1 := Int.emod_add_mul_ediv (-(q * 100)) d
  have e2 := Int.emod_nonneg (-(q * 100)) (by omega : d ≠ 0)
  have e3 := Int.emod_lt_of_pos (-(q * 100)) hd
  generalize -(q * 100) / d = t at e1 hg
  generalize -(q * 100) % d = r at e1 e2 e3
  -- r + d * t = -(q * 100), g = -t
  have hgd : g * d = q * 100 + r := by
    rw [hg, Int.neg_mul, Int.mul_comm t d]; omega
  have hg0 : 0 ≤ g := by
    rcases Int.lt_or_le g 0 with h | h
    · exfalso
      have := Int.mul_le_mul_of_nonneg_right (show g ≤ -1 by omega) (show 0 ≤ d by omega)
      omega
    · exact h
  have hg2 : g ≤ 2000000000 := by
    rcases Int.lt_or_le 2000000000 g with h | h
    · exfalso
      have := Int.mul_le_mul_of_nonneg_right (show (2000000001 : Int) ≤ g by omega) (show 0 ≤ d by omega)
      omega
    · exact h
  refine ⟨hg0, hg2, ?_, fun h => ?_, fun h => ?_⟩
  · rw [hgd, Int.tdiv_eq_ediv_of_nonneg (by omega)]; omega
  · rw [h, Int.zero_mul] at hgd; omega
  · have h3 : (g - 1) * d = q * 100 + r - d := by rw [Int.sub_mul, hgd]; omega
    have h4 : 0 ≤ (g - 1) * d := Int.mul_nonneg (by omega) (by omega)
    rw [Int.tdiv_eq_ediv_of_nonneg h4]; omega
theorem law0_FnScrap (b : List Int) (hb1 : b.length ≤ 9223372036854775807) (hb2 : ∀ n ∈ b, 0 ≤ n ∧ n ≤ 255) : Contract Try.prog 5 [.d (lD yD b)] (.one (.d (.sc (.bool true)))) := by
  refine contract_byR [200000 + 23] hma hTa Try.func5 (by kernel_rfl) (by kernel_rfl) ?_
  conv => whnf
  refine CallK_tr (c_laws_big b hb1) (fun h => ?_) (fun h => ?_) <;> conv => whnf
  refine DCallK_intro (c_spec_DrawGrossOf b (by omega) hb2) ?_
  rintro r _ ⟨x, q, hx, hq, rfl⟩
  conv => whnf
  refine CallK_intro (c_impl_GrossOf x hx q) ?_
  conv => whnf
  refine CallK_intro (c_spec_GrossOf x hx q) ?_
  conv => whnf
  refine brNBEq (fun h2 => ?_) (fun h2 => ?_)
  rotate_left
  · exact absurd rfl h2
  conv => whnf
  rcases Classical.em (isItemP x ∧ inP q 0 1000000000) with hv | hv
  · rw [tr_t hv]
    have hs := isItem_scrap hv.1
    have hm := scrap_math hv.2.1 hv.2.2 hs.1 hs.2 (grossOfN x q) (by unfold grossOfN; rw [ifP_t hv])
    obtain ⟨m1, m2, m3, m4, m5⟩ := hm
    generalize grossOfN x q = g at m1 m2 m3 m4 m5 ⊢
    conv => whnf
    refine CallK_intro (c_impl_NetOf x hx g) ?_
    conv => whnf
    have hv1 : isItemP x ∧ inP g 0 2000000000 := ⟨hv.1, m1, m2⟩
    have e1 : netOfN x g = (g * (100 - x.scrap)).tdiv 100 := by unfold netOfN; rw [ifP_t hv1]
    rw [e1, tr_t hv1]
    generalize (g * (100 - x.scrap)).tdiv 100 = n at m3 ⊢
    refine WrK_i64 (by omega) (by omega) ?_
    conv => whnf
    refine CallK_intro (c_impl_NetOf x hx (g - 1)) ?_
    rcases Int.lt_or_le 0 g with hg0 | hg0
    · have hv2 : isItemP x ∧ inP (g - 1) 0 2000000000 := ⟨hv.1, by unfold inP; omega⟩
      have e2 : netOfN x (g - 1) = ((g - 1) * (100 - x.scrap)).tdiv 100 := by unfold netOfN; rw [ifP_t hv2]
      have h5 := m5 hg0
      rw [e2, tr_t hv2]
      generalize ((g - 1) * (100 - x.scrap)).tdiv 100 = m at h5 ⊢
      conv => whnf
      refine brLe (fun _ => ?_) (fun h => absurd h (by omega))
      conv => whnf
      refine brEq (fun h => absurd h (by omega)) (fun _ => ?_)
      conv => whnf
      rw [ltB_iff.2 h5]
    · have hq0 := m4 (by omega)
      conv => whnf
      refine brLe (fun _ => ?_) (fun h => absurd h (by omega))
      conv => whnf
      refine brEq (fun _ => ?_) (fun h => absurd (show g = 0 by omega) h)
      conv => whnf
      refine brEq (fun _ => ?_) (fun h => absurd hq0 h)
      conv => whnf
      all_goals exact rfl
  · rw [tr_f hv]
    have e1 : grossOfN x q = 0 := by unfold grossOfN; rw [ifP_f hv]
    rw [e1]
    conv => whnf
    rw [eqB_iff.2 rfl]


theorem bytes_dec {x : D} (h : HasTy (.sl .u8) x) : ∃ b : List Int, x = lD yD b ∧ b.length ≤ 9223372036854775807 ∧ ∀ n ∈ b, 0 ≤ n ∧ n ≤ 255 := by
  obtain ⟨b, e, h1, h2⟩ := sl_dec (f := yD) (ok := fun n => 0 ≤ n ∧ n ≤ 255) (e := .u8) (fun y hy => by cases hy with | u8 n lo hi => exact ⟨n, rfl, lo, hi⟩) h
  exact ⟨b, e, h1, h2⟩
theorem law_FnScrap : ∀ xs, HasTys [.sl .u8] xs → Contract Try.prog 5 (xs.map .d) (.one (.d (.sc (.bool true)))) := by
  intro xs h
  obtain ⟨d0, r0, rfl, h0, g0⟩ := HasTys_cons h
  cases HasTys_nil g0
  obtain ⟨b, rfl, hb1, hb2⟩ := bytes_dec h0
  exact law0_FnScrap b hb1 hb2
end Go.DL
namespace Go.Proofs.Ytpobkpenfdibkaa
open Go.ChangeShapes Go.WideShapes Go.ChangeAt Go.RowKit
theorem Try.cpD : Try.checked.prog = Try.prog := by kernel_rfl
theorem Try.ownD : ownKnob Try.checked.prog.godebug = none := by kernel_rfl
theorem Try.laidOutD : laidOutB Try.checked.prog = true := by kernel_rfl
theorem Try.lawD : ∀ xs, DL.HasTys [.sl .u8] xs → DL.Contract Try.checked.prog 5 (xs.map .d) (.one (.d (.sc (.bool true)))) := by rw [Try.cpD]; exact DL.law_FnScrap
theorem fnScrap_lifted (os : Os) (started : os.Started) (H : Type) (enc : TypeId × Value → H) :
    ReturnsInHanded {} Try.checked os 5 .any (Rows.fnScrapSpec.pre6 enc Try.checked.prog Try.f5 Rows.fnScrapRow.domain false) (Rows.fnScrapSpec.post enc Try.checked.prog Try.f5 false true false false) := by
  refine returnsInHanded_of_change (C := Try.checked) Try.ownD started (by kernel_rfl) Try.func5
    (ChangeSpec.witness6 (enc := enc) (C := Try.checked) false ⟨#[], #[.slice none 0 0], []⟩ 8 (by kernel_rfl) (by kernel_rfl) (by kernel_rfl) (by kernel_rfl)) ?_
  intro W base args ds gs before hval0 hW0 _ _
  exact DL.law_calls (P := Try.checked.prog) (fn := Try.f5) (s := Rows.fnScrapSpec) (ts := [22]) (tb := 4) (tys := [.sl .u8]) (by kernel_rfl) (by kernel_rfl) (by kernel_rfl) rfl
    (fun ds h => match ds, h with | [d0], _ => rfl) Try.laidOutD (by kernel_rfl) Try.lawD W base args ds gs before @hval0 hW0
/-- The law returns true, whatever comes in. -/
theorem FnScrap_holds : Rows.FnScrapSaid :=
  OpenClaim.holds_of_wide 5 Try.f5 rfl rfl rfl rfl rfl rfl rfl ⟨rfl, rfl, rfl, rfl, rfl⟩ rfl rfl rfl rfl rfl (by kernel_rfl) Try.func5 (by kernel_rfl)
    (of_decide_eq_true (by kernel_rfl)) (by unfold Func.isWrapper; first | (rw [if_pos (by decide +kernel)]; kernel_rfl) | (rw [if_neg (by decide +kernel)]; exact ⟨rfl, rfl⟩))
    (fun os started H enc _ => fnScrap_lifted os started H enc)
end Go.Proofs.Ytpobkpenfdibkaa
namespace Go.DL

end Go.DL
