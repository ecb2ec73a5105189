/- The statement FnExactExplosionSaid: the law returns true for every input that can be read as data, and each argument reads afterwards as it read before. No conditions. -/
import Derived.Test.YtjhjedfnjimflaaM
import Derived.Test.YtjhjedfnjimflaaPO
import Derived.ProofKit
namespace Go.DL
set_option maxRecDepth 100000
set_option maxHeartbeats 2000000
set_option linter.unusedSimpArgs false
set_option linter.unusedVariables false
open Go.RowKit Go.Proofs Go.Proofs.Ytjhjedfnjimflaa

set_option maxHeartbeats 4000000 in
theorem law0_FnExplosion (b : List Int) (hb1 : b.length ≤ 9223372036854775807) (hb2 : ∀ n ∈ b, 0 ≤ n ∧ n ≤ 255) : Contract Try.prog 14 [.d (lD yD b)] (.one (.d (.sc (.bool true)))) := by
  refine contract_byR [200000 + 55] hma hTa Try.func14 (by kernel_rfl) (by kernel_rfl) ?_
  conv => whnf
  refine CallK_tr (c_laws_big b hb1) (fun h => ?_) (fun h => ?_) <;> conv => whnf
  refine DCallK_intro (c_spec_DrawExplosion b (by omega) hb2) ?_
  rintro r _ ⟨cat, lines, s, q, day, ch, hc, hc6, hl, hl20, hs, hq, hq2, hday, hch, rfl⟩
  conv => whnf
  have e1 : (List.map ItemV.dat cat).length = cat.length := List.length_map _
  have hI := fun r hr => c_impl_Explosion0 cat hc lines hl s q day ch hch r hr
  have hS := fun r hr => c_spec_Explosion0 cat hc lines hl s q day ch hch r hr
  by_cases hE : expP cat lines s q day ch (fun _ => True)
  rotate_left
  · refine CallK_intro (hI _ ⟨fun h2 => absurd h2 hE, fun _ => rfl⟩) ?_
    conv => whnf
    refine CallK_intro (hS _ ⟨fun h2 => absurd h2 hE, fun _ => rfl⟩) ?_
    conv => whnf
    refine brNBEq (fun _ => ?_) (fun h => absurd rfl h)
    conv => whnf
    exact congrArg (fun b => D.sc (.bool b)) (eqB_iff.2 rfl)
  refine CallK_intro (hI _ ⟨fun _ => rfl, fun h2 => absurd hE h2⟩) ?_
  conv => whnf
  refine CallK_intro (hS _ ⟨fun _ => rfl, fun h2 => absurd hE h2⟩) ?_
  conv => whnf
  refine brNBEq (fun _ => ?_) (fun h => absurd rfl h)
  conv => whnf
  have s0 := expL_small (P := fun _ => True) hE
  have hin := fun {i : Nat} {y : ItemV} (hy : cat[i]? = some y) => in_exp (P := fun _ => True) hE hy
  have hq0 : 0 ≤ q ∧ q ≤ 100000 := hE.2.2.1
  generalize expL cat lines s q day ch (fun _ => True) (fun _ => True) = l0 at s0 hin ⊢
  refine LoopK_intro hma hTa [(3, .pl), (4, .pl), (5, .pl), (6, .pl), (7, .pl), (8, .pl), (9, .fz), (13, .pl)] (fun i : Nat => ⟨[(3, .d (lD ItemV.dat cat)), (4, .d (lD LineV.dat lines)), (5, .d (sD s)), (6, .d (iD q)), (7, .d (iD day)), (8, .d (lD PickV.dat ch)), (9, .d (lD NeedV.dat l0)), (13, .d (iD i))], [], []⟩) (fun i => i ≤ cat.length) (fun i => cat.length - i) (by kernel_rfl) ?_ ?_
  · conv => whnf
    refine takeK_full rfl ?_
    conv => whnf
    exact ⟨0, by omega, rfl⟩
  · intro i hi
    conv => whnf
    refine brLt (fun h => ?_) (fun h => ?_) <;> conv => whnf
    refine IxK_mapLt _ rfl (by omega) (fun y hy => ?_)
    conv => whnf
    have hil := get_lt hy
    refine brStr (fun h1 => ?_) (fun h1 => ?_) <;> conv => whnf
    · refine WrK_i64 (by omega) (by omega) ?_
      conv => whnf
      exact ⟨i + 1, hil, Nat.sub_lt_sub_left hil (Nat.lt_succ_self i), rfl⟩
    have hQ := c_impl_QuantityIn cat hc lines hl s y.code day ch hch
    have hW := c_impl_WaysTo cat hc lines hl s y.code day ch hch
    have hii := idx_self hE.1.1 hy
    have hia : ¬ i = (idxOf cat s).toNat := fun e => h1 ((idx_code hE.1.1 hy hE.2.1).2 e.symm).symm
    have hnum := hin hy
    rw [ifP_t trivial, if_neg hia] at hnum
    have hxq := exp_qty hE hy
    have hle := hE.2.2.2 i hil
    have hS0 : 0 ≤ qtyS cat lines y.code day ch (idxOf cat s).toNat := ((act_ok hE.1 day ch).sol (idxOf cat y.code).toNat).nn _
    have hqP : qtyP cat lines s y.code day ch ↔ qtyS cat lines y.code day ch (idxOf cat s).toNat ≤ 1000000000 := ⟨fun h => h.2.2.2, fun h => ⟨hE.1, hE.2.1, by omega, h⟩⟩
    have hwv := wayS_nn (code := s) (part := y.code) (day := day) (c := ch) hE.1
    have hws := fun (h : wayP cat lines s y.code day ch) => wayS_sum hy h
    have hmul : qtyS cat lines y.code day ch (idxOf cat s).toNat * q = q * qtyS cat lines y.code day ch (idxOf cat s).toNat := Int.mul_comm _ _
    rw [hxq] at hnum hle
    unfold qtyN at hQ
    by_cases hQP : qtyS cat lines y.code day ch (idxOf cat s).toNat ≤ 1000000000
    · rw [ifP_t (hqP.2 hQP), tr_t (hqP.2 hQP)] at hQ
      generalize qtyS cat lines y.code day ch (idxOf cat s).toNat = S at *
      have hb3 := mul_bound hS0 hQP hq0.1 hq0.2
      refine IxK_map _ rfl hy ?_
      conv => whnf
      refine CallK_intro hQ ?_
      conv => whnf
      refine brLt (fun h2 => ?_) (fun h2 => ?_) <;> conv => whnf
      · refine IxK_map _ rfl hy ?_
        conv => whnf
        refine CallK_intro (c_laws_in l0 s0 y.code) ?_
        conv => whnf
        refine WrK_i64 (by omega) (by omega) ?_
        conv => whnf
        refine brNEq (fun h3 => ?_) (fun h3 => absurd (hnum.trans hmul.symm) h3)
        conv => whnf
        refine IxK_map _ rfl hy ?_
        conv => whnf
        by_cases hWP : wayP cat lines s y.code day ch
        · have hsw := hws hWP
          have hok := hWP.2.2.2.2
          have hwl : (wayS cat lines s y.code day ch).length ≤ 200 := by
            rcases hok.2 with h | h
            · rw [h]; decide
            · omega
          have hwb : ∀ v ∈ wayS cat lines s y.code day ch, 0 ≤ v ∧ v ≤ 1000000000 := fun v hv => ⟨hwv v hv, hok.1 v hv⟩
          have hWy := hW _ ⟨fun _ => rfl, fun h => absurd hWP h⟩
          generalize wayS cat lines s y.code day ch = W at hWy hsw hwl hwb
          refine CallK_intro hWy ?_
          conv => whnf
          refine takeK_full rfl ?_
          conv => whnf
          refine CallK_intro (c_laws_sum W hwl hwb) ?_
          conv => whnf
          refine brNEq (fun h3 => ?_) (fun h3 => absurd hsw h3)
          conv => whnf
          refine WrK_i64 (by omega) (by omega) ?_
          conv => whnf
          exact ⟨i + 1, hil, Nat.sub_lt_sub_left hil (Nat.lt_succ_self i), rfl⟩
        · refine CallK_intro (hW _ ⟨fun h => absurd h hWP, fun _ => rfl⟩) ?_
          conv => whnf
          refine WrK_i64 (by omega) (by omega) ?_
          conv => whnf
          exact ⟨i + 1, hil, Nat.sub_lt_sub_left hil (Nat.lt_succ_self i), rfl⟩
      ·
        refine IxK_map _ rfl hy ?_
        conv => whnf
        by_cases hWP : wayP cat lines s y.code day ch
        · have hsw := hws hWP
          have hok := hWP.2.2.2.2
          have hwl : (wayS cat lines s y.code day ch).length ≤ 200 := by
            rcases hok.2 with h | h
            · rw [h]; decide
            · omega
          have hwb : ∀ v ∈ wayS cat lines s y.code day ch, 0 ≤ v ∧ v ≤ 1000000000 := fun v hv => ⟨hwv v hv, hok.1 v hv⟩
          have hWy := hW _ ⟨fun _ => rfl, fun h => absurd hWP h⟩
          generalize wayS cat lines s y.code day ch = W at hWy hsw hwl hwb
          refine CallK_intro hWy ?_
          conv => whnf
          refine takeK_full rfl ?_
          conv => whnf
          refine CallK_intro (c_laws_sum W hwl hwb) ?_
          conv => whnf
          refine brNEq (fun h3 => ?_) (fun h3 => absurd hsw h3)
          conv => whnf
          refine WrK_i64 (by omega) (by omega) ?_
          conv => whnf
          exact ⟨i + 1, hil, Nat.sub_lt_sub_left hil (Nat.lt_succ_self i), rfl⟩
        · refine CallK_intro (hW _ ⟨fun h => absurd h hWP, fun _ => rfl⟩) ?_
          conv => whnf
          refine WrK_i64 (by omega) (by omega) ?_
          conv => whnf
          exact ⟨i + 1, hil, Nat.sub_lt_sub_left hil (Nat.lt_succ_self i), rfl⟩
    · rw [ifP_f (fun h => hQP (hqP.1 h)), tr_f (fun h => hQP (hqP.1 h))] at hQ
      refine IxK_map _ rfl hy ?_
      conv => whnf
      refine CallK_intro hQ ?_
      conv => whnf
      have hq1 : ¬ 0 < q := fun h => by
        have := mul_ge (c := q) (by omega) hS0
        omega
      refine brLt (fun h2 => absurd h2 hq1) (fun h2 => ?_)
      conv => whnf
      refine IxK_map _ rfl hy ?_
      conv => whnf
      by_cases hWP : wayP cat lines s y.code day ch
      · refine CallK_intro (hW _ ⟨fun _ => rfl, fun h => absurd hWP h⟩) ?_
        conv => whnf
        refine WrK_i64 (by omega) (by omega) ?_
        conv => whnf
        exact ⟨i + 1, hil, Nat.sub_lt_sub_left hil (Nat.lt_succ_self i), rfl⟩
      · refine CallK_intro (hW _ ⟨fun h => absurd h hWP, fun _ => rfl⟩) ?_
        conv => whnf
        refine WrK_i64 (by omega) (by omega) ?_
        conv => whnf
        exact ⟨i + 1, hil, Nat.sub_lt_sub_left hil (Nat.lt_succ_self i), rfl⟩


theorem bytes_dec {x : D} (h : HasTy (.sl .u8) x) : ∃ b : List Int, x = lD yD b ∧ b.length ≤ 9223372036854775807 ∧ ∀ n ∈ b, 0 ≤ n ∧ n ≤ 255 := by
  obtain ⟨b, e, h1, h2⟩ := sl_dec (f := yD) (ok := fun n => 0 ≤ n ∧ n ≤ 255) (e := .u8) (fun y hy => by cases hy with | u8 n lo hi => exact ⟨n, rfl, lo, hi⟩) h
  exact ⟨b, e, h1, h2⟩
theorem law_FnExplosion : ∀ xs, HasTys [.sl .u8] xs → Contract Try.prog 14 (xs.map .d) (.one (.d (.sc (.bool true)))) := by
  intro xs h
  obtain ⟨d0, r0, rfl, h0, g0⟩ := HasTys_cons h
  cases HasTys_nil g0
  obtain ⟨b, rfl, hb1, hb2⟩ := bytes_dec h0
  exact law0_FnExplosion b hb1 hb2
end Go.DL
namespace Go.Proofs.Ytjhjedfnjimflaa
open Go.ChangeShapes Go.WideShapes Go.ChangeAt Go.RowKit
theorem Try.cpD : Try.checked.prog = Try.prog := by kernel_rfl
theorem Try.ownD : ownKnob Try.checked.prog.godebug = none := by kernel_rfl
theorem Try.laidOutD : laidOutB Try.checked.prog = true := by kernel_rfl
theorem Try.lawD : ∀ xs, DL.HasTys [.sl .u8] xs → DL.Contract Try.checked.prog 14 (xs.map .d) (.one (.d (.sc (.bool true)))) := by rw [Try.cpD]; exact DL.law_FnExplosion
theorem fnExplosion_lifted (os : Os) (started : os.Started) (H : Type) (enc : TypeId × Value → H) :
    ReturnsInHanded {} Try.checked os 14 .any (Rows.fnExplosionSpec.pre6 enc Try.checked.prog Try.f14 Rows.fnExplosionRow.domain false) (Rows.fnExplosionSpec.post enc Try.checked.prog Try.f14 false true false false) := by
  refine returnsInHanded_of_change (C := Try.checked) Try.ownD started (by kernel_rfl) Try.func14
    (ChangeSpec.witness6 (enc := enc) (C := Try.checked) false ⟨#[], #[.slice none 0 0], []⟩ 8 (by kernel_rfl) (by kernel_rfl) (by kernel_rfl) (by kernel_rfl)) ?_
  intro W base args ds gs before hval0 hW0 _ _
  exact DL.law_calls (P := Try.checked.prog) (fn := Try.f14) (s := Rows.fnExplosionSpec) (ts := [22]) (tb := 4) (tys := [.sl .u8]) (by kernel_rfl) (by kernel_rfl) (by kernel_rfl) rfl
    (fun ds h => match ds, h with | [d0], _ => rfl) Try.laidOutD (by kernel_rfl) Try.lawD W base args ds gs before @hval0 hW0
/-- The law returns true, whatever comes in. -/
theorem FnExplosion_holds : Rows.FnExplosionSaid :=
  OpenClaim.holds_of_wide 14 Try.f14 rfl rfl rfl rfl rfl rfl rfl ⟨rfl, rfl, rfl, rfl, rfl⟩ rfl rfl rfl rfl rfl (by kernel_rfl) Try.func14 (by kernel_rfl)
    (of_decide_eq_true (by kernel_rfl)) (by unfold Func.isWrapper; first | (rw [if_pos (by decide +kernel)]; kernel_rfl) | (rw [if_neg (by decide +kernel)]; exact ⟨rfl, rfl⟩))
    (fun os started H enc _ => fnExplosion_lifted os started H enc)
end Go.Proofs.Ytjhjedfnjimflaa
namespace Go.DL

end Go.DL
