/- The statement FnExactPhantomsSaid: the law returns true for every input that can be read as data, and each argument reads afterwards as it read before. No conditions. -/
import Derived.Test.YtjhjedfnjimflaaM
import Derived.Test.YtjhjedfnjimflaaPM
import Derived.ProofKit
namespace Go.DL
set_option maxRecDepth 100000
set_option maxHeartbeats 2000000
set_option linter.unusedSimpArgs false
set_option linter.unusedVariables false
open Go.RowKit Go.Proofs Go.Proofs.Ytjhjedfnjimflaa

theorem qsum_step {F : ByteArray → Int} {s : ByteArray} {l : List NeedV} {t : Nat} {x : NeedV} (h : l[t]? = some x) : qsum F s (l.take (t + 1)) = qsum F s (l.take t) + ifP (x.code = s) 0 (F x.code * x.quantity) := by unfold qsum; rw [sumI_take h]
theorem qterm_nn {F : ByteArray → Int} {s : ByteArray} {x : NeedV} (hF : ∀ t, 0 ≤ F t) (hq : 0 ≤ x.quantity) : 0 ≤ ifP (x.code = s) 0 (F x.code * x.quantity) := by
  by_cases h : x.code = s
  · rw [ifP_t h]; omega
  · rw [ifP_f h]; exact Int.mul_nonneg (hF _) hq
theorem qsum_nn {F : ByteArray → Int} {s : ByteArray} {l : List NeedV} (hF : ∀ t, 0 ≤ F t) (hq : ∀ x ∈ l, 0 ≤ x.quantity) : 0 ≤ qsum F s l := sumI_nonneg fun x hx => qterm_nn hF (hq x hx)
theorem qsum_le {F : ByteArray → Int} {s : ByteArray} {l : List NeedV} (hF : ∀ t, 0 ≤ F t) (hq : ∀ x ∈ l, 0 ≤ x.quantity) (t : Nat) : qsum F s (l.take t) ≤ qsum F s l := by
  have h1 : qsum F s l = qsum F s (l.take t) + qsum F s (l.drop t) := by
    unfold qsum
    rw [← sumI_append, List.take_append_drop]
  have h2 := qsum_nn (s := s) hF (l := l.drop t) fun x hx => hq x (List.mem_of_mem_drop hx)
  omega
theorem qtyS_nn {cat : List ItemV} {lines : List LineV} {day : Int} {c : List PickV} (hb : isBillsP cat lines) (part : ByteArray) (i : Nat) : 0 ≤ qtyS cat lines part day c i := ((act_ok hb day c).sol (idxOf cat part).toNat).nn i
theorem expP_phan {cat : List ItemV} {lines : List LineV} {s : ByteArray} {q day : Int} {c : List PickV} (h : expP cat lines s q day c (fun _ => True)) : expP cat lines s q day c (fun x => x.kind = 2) := by
  refine ⟨h.1, h.2.1, h.2.2.1, fun j hj => ?_⟩
  have h1 := phan_sum h (i := j) (y := cat[j]) (by simp)
  have h2 := h.2.2.2 j hj
  have hP := pie_okL (act_ok h.1 day c) (fun x => x.kind = 2) (idxOf cat s).toNat h.2.2.1.1
  have h3 := qsum_nn (s := (cat[j]).code) (F := fun t => qtyS cat lines (cat[j]).code day c (idxOf cat t).toNat) (l := expL cat lines s q day c (fun x => x.kind = 2) (fun x => x.kind ≠ 2)) (fun t => qtyS_nn h.1 _ _) (fun x hx => by
    obtain ⟨k, z, _, _, h4, _, rfl⟩ := need_mem hx
    exact Int.le_of_lt h4)
  omega
set_option maxHeartbeats 8000000 in
theorem law0_FnPhantoms (b : List Int) (hb1 : b.length ≤ 9223372036854775807) (hb2 : ∀ n ∈ b, 0 ≤ n ∧ n ≤ 255) : Contract Try.prog 12 [.d (lD yD b)] (.one (.d (.sc (.bool true)))) := by
  refine contract_byR [200000 + 59] hma hTa Try.func12 (by kernel_rfl) (by kernel_rfl) ?_
  conv => whnf
  refine CallK_tr (c_laws_big b hb1) (fun h => ?_) (fun h => ?_) <;> conv => whnf
  refine DCallK_intro (c_spec_DrawPartsOf b (by omega) hb2) ?_
  rintro r _ ⟨cat, lines, s, q, day, ch, hc, hc6, hl, hl20, hs, hq, hq2, hday, hch, rfl⟩
  conv => whnf
  have e1 : (List.map ItemV.dat cat).length = cat.length := List.length_map _
  have hIy := fun {q : Int} (h : expP cat lines s q day ch (fun _ => True)) => c_impl_Explosion0 cat hc lines hl s q day ch hch _ ⟨fun _ => rfl, fun h2 => absurd h h2⟩
  have hIn := fun {q : Int} (h : ¬ expP cat lines s q day ch (fun _ => True)) => c_impl_Explosion0 cat hc lines hl s q day ch hch _ ⟨fun h2 => absurd h2 h, fun _ => rfl⟩
  have hSy := fun {q : Int} (h : expP cat lines s q day ch (fun _ => True)) => c_spec_Explosion0 cat hc lines hl s q day ch hch _ ⟨fun _ => rfl, fun h2 => absurd h h2⟩
  have hSn := fun {q : Int} (h : ¬ expP cat lines s q day ch (fun _ => True)) => c_spec_Explosion0 cat hc lines hl s q day ch hch _ ⟨fun h2 => absurd h2 h, fun _ => rfl⟩
  have hPy := fun {q : Int} (h : expP cat lines s q day ch (fun x => x.kind = 2)) => c_impl_PartsOf0 cat hc lines hl s q day ch hch _ ⟨fun _ => rfl, fun h2 => absurd h h2⟩
  have hPn := fun {q : Int} (h : ¬ expP cat lines s q day ch (fun x => x.kind = 2)) => c_impl_PartsOf0 cat hc lines hl s q day ch hch _ ⟨fun h2 => absurd h2 h, fun _ => rfl⟩
  by_cases hE : expP cat lines s q day ch (fun _ => True)
  rotate_left
  · refine CallK_intro (hIn hE) ?_
    conv => whnf
    refine CallK_intro (hSn hE) ?_
    conv => whnf
    refine brNBEq (fun _ => ?_) (fun h => absurd rfl h)
    conv => whnf
    by_cases hE1 : expP cat lines s q day ch (fun x => x.kind = 2)
    · refine CallK_intro (hPy hE1) ?_
      conv => whnf
      exact congrArg (fun b => D.sc (.bool b)) (eqB_iff.2 rfl)
    · refine CallK_intro (hPn hE1) ?_
      conv => whnf
      exact congrArg (fun b => D.sc (.bool b)) (eqB_iff.2 rfl)
  have hE1 := expP_phan hE
  refine CallK_intro (hIy hE) ?_
  conv => whnf
  refine CallK_intro (hSy hE) ?_
  conv => whnf
  refine brNBEq (fun _ => ?_) (fun h => absurd rfl h)
  conv => whnf
  refine CallK_intro (hPy hE1) ?_
  conv => whnf
  have s0 := expL_small (P := fun _ => True) hE
  have s1 := expL_small (P := fun x => x.kind ≠ 2) hE1
  have hin0 := fun {i : Nat} {y : ItemV} (hy : cat[i]? = some y) => in_exp (P := fun _ => True) hE hy
  have hin1 := fun {i : Nat} {y : ItemV} (hy : cat[i]? = some y) => in_exp (P := fun x => x.kind ≠ 2) hE1 hy
  have hph := fun {i : Nat} {y : ItemV} (hy : cat[i]? = some y) => phan_sum hE hy
  have hm1 : ∀ x ∈ expL cat lines s q day ch (fun x => x.kind = 2) (fun x => x.kind ≠ 2), 0 < x.quantity ∧ 0 ≤ idxOf cat x.code := fun x hx => by
    obtain ⟨k, z, _, hz, h4, _, rfl⟩ := need_mem hx
    exact ⟨h4, by rw [idx_self hE.1.1 hz]; omega⟩
  generalize expL cat lines s q day ch (fun _ => True) (fun _ => True) = l0 at s0 hin0 ⊢
  generalize expL cat lines s q day ch (fun x => x.kind = 2) (fun x => x.kind ≠ 2) = l1 at s1 hin1 hph hm1 ⊢
  have e3 : (List.map NeedV.dat l1).length = l1.length := List.length_map _
  have h100 := s1.1
  refine LoopK_intro hma hTa [(3, .pl), (4, .pl), (5, .pl), (7, .pl), (8, .pl), (9, .fz), (13, .fz), (14, .pl), (15, .pl)] (fun i : Nat => ⟨[(3, .d (lD ItemV.dat cat)), (4, .d (lD LineV.dat lines)), (5, .d (sD s)), (7, .d (iD day)), (8, .d (lD PickV.dat ch)), (9, .d (lD NeedV.dat l0)), (13, .d (lD NeedV.dat l1)), (14, .d (bD true)), (15, .d (iD i))], [], []⟩) (fun i => i ≤ cat.length) (fun i => cat.length - i) (by kernel_rfl) ?_ ?_
  · conv => whnf
    refine takeK_full rfl ?_
    conv => whnf
    refine takeK_full rfl ?_
    conv => whnf
    exact ⟨0, by omega, rfl⟩
  · intro i hi
    conv => whnf
    refine brLt (fun h => ?_) (fun h => ?_) <;> conv => whnf
    refine IxK_mapLt _ rfl (by omega) (fun y hy => ?_)
    conv => whnf
    have hil := get_lt hy
    refine brEq (fun h1 => ?_) (fun h1 => ?_) <;> conv => whnf
    · refine IxK_map _ rfl hy ?_
      conv => whnf
      refine CallK_intro (c_laws_in l1 s1 y.code) ?_
      conv => whnf
      have hz : inN y.code l1 = 0 := by rw [hin1 hy, ifP_f (fun h => h h1)]
      refine brNEq (fun h2 => ?_) (fun h2 => absurd hz h2)
      conv => whnf
      refine WrK_i64 (by omega) (by omega) ?_
      conv => whnf
      exact ⟨i + 1, hil, Nat.sub_lt_sub_left hil (Nat.lt_succ_self i), rfl⟩
    refine IxK_map _ rfl hy ?_
    conv => whnf
    refine CallK_intro (c_laws_in l1 s1 y.code) ?_
    conv => whnf
    have hF : ∀ t, 0 ≤ qtyS cat lines y.code day ch (idxOf cat t).toNat := fun t => qtyS_nn hE.1 _ _
    have hsum := hph hy
    have hNi := hE.2.2.2 i hil
    have hi1 := hin1 hy
    rw [ifP_t h1] at hi1
    have hP0 : 0 ≤ expN cat lines s q day ch (fun x => x.kind = 2) i := (pie_okL (act_ok hE.1 day ch) (fun x => x.kind = 2) (idxOf cat s).toNat hE.2.2.1.1).sol.nn i
    have hle : ∀ t, 0 ≤ qsum (fun t => qtyS cat lines y.code day ch (idxOf cat t).toNat) y.code (l1.take t) ∧ qsum (fun t => qtyS cat lines y.code day ch (idxOf cat t).toNat) y.code (l1.take t) ≤ qsum (fun t => qtyS cat lines y.code day ch (idxOf cat t).toNat) y.code l1 := fun t => ⟨qsum_nn hF (fun x hx => Int.le_of_lt (hm1 x (List.mem_of_mem_take hx)).1), qsum_le hF (fun x hx => Int.le_of_lt (hm1 x hx).1) t⟩
    have hi2 : 0 ≤ inN y.code l1 ∧ inN y.code l1 ≤ expN cat lines s q day ch (fun x => x.kind = 2) i := by rw [hi1]; split <;> omega
    have hst := fun {t : Nat} {x : NeedV} (hx : l1[t]? = some x) => qsum_step (F := fun t => qtyS cat lines y.code day ch (idxOf cat t).toNat) (s := y.code) hx
    have hQ : ∀ x ∈ l1, x.code ≠ y.code → qtyS cat lines y.code day ch (idxOf cat x.code).toNat ≤ 1000000000 → Contract Try.prog 61 [.d (lD ItemV.dat cat), .d (lD LineV.dat lines), .d (sD x.code), .d (sD y.code), .d (iD day), .d (lD PickV.dat ch)] (.tup (.d (iD (qtyS cat lines y.code day ch (idxOf cat x.code).toNat))) [bD true]) := fun x hx _ hb => by
      have h2 := c_spec_QuantityIn cat hc lines hl x.code y.code day ch hch
      have h3 : qtyP cat lines x.code y.code day ch := ⟨hE.1, (hm1 x hx).2, by rw [idx_self hE.1.1 hy]; omega, hb⟩
      rw [qtyN, ifP_t h3, tr_t h3] at h2
      exact h2
    generalize (fun t => qtyS cat lines y.code day ch (idxOf cat t).toNat) = F at hsum hle hst
    refine LoopK_intro hma hTa [(3, .pl), (4, .pl), (5, .pl), (7, .pl), (8, .pl), (9, .pl), (13, .pl), (14, .pl), (15, .pl), (16, .pl), (17, .pl)] (fun t : Nat => ⟨[(3, .d (lD ItemV.dat cat)), (4, .d (lD LineV.dat lines)), (5, .d (sD s)), (7, .d (iD day)), (8, .d (lD PickV.dat ch)), (9, .d (lD NeedV.dat l0)), (13, .d (lD NeedV.dat l1)), (14, .d (bD true)), (15, .d (iD i)), (16, .d (iD (inN y.code l1 + qsum F y.code (l1.take t)))), (17, .d (iD t))], [], []⟩) (fun t => t ≤ l1.length) (fun t => l1.length - t) (by kernel_rfl) ?_ ?_
    · conv => whnf
      refine ⟨0, by omega, ?_⟩
      dsimp only
      rw [show qsum F y.code (l1.take 0) = 0 from rfl, Int.add_zero]; rfl
    · intro t ht
      conv => whnf
      have hlt := hle t
      refine brLt (fun h3 => ?_) (fun h3 => ?_) <;> conv => whnf
      · refine IxK_mapLt _ rfl (by omega) (fun x hx => ?_)
        conv => whnf
        have htl := get_lt hx
        have hxm := get_mem hx
        have hstx := hst hx
        have hlt1 := hle (t + 1)
        refine IxK_map _ rfl hy ?_
        conv => whnf
        refine brNStr (fun h4 => ?_) (fun h4 => ?_) <;> conv => whnf
        · rw [ifP_t h4, Int.add_zero] at hstx
          refine WrK_i64 (by omega) (by omega) ?_
          conv => whnf
          exact ⟨t + 1, htl, Nat.sub_lt_sub_left htl (Nat.lt_succ_self t), by dsimp only; rw [hstx]; rfl⟩
        · rw [ifP_f h4] at hstx
          have hS0 := hF x.code
          have hxq := (hm1 x hxm).1
          have hge := mul_ge (c := x.quantity) (by omega) hS0
          have hmc : x.quantity * qtyS cat lines y.code day ch (idxOf cat x.code).toNat = qtyS cat lines y.code day ch (idxOf cat x.code).toNat * x.quantity := Int.mul_comm _ _
          have hQx := hQ x hxm h4 (by omega)
          generalize qtyS cat lines y.code day ch (idxOf cat x.code).toNat = S at hQx hstx hS0 hge hmc
          refine IxK_map _ rfl hx ?_
          conv => whnf
          refine IxK_map _ rfl hy ?_
          conv => whnf
          refine CallK_intro hQx ?_
          conv => whnf
          refine IxK_map _ rfl hx ?_
          conv => whnf
          refine WrK_i64 (by omega) (by omega) ?_
          conv => whnf
          refine WrK_i64 (by omega) (by omega) ?_
          conv => whnf
          refine WrK_i64 (by omega) (by omega) ?_
          conv => whnf
          exact ⟨t + 1, htl, Nat.sub_lt_sub_left htl (Nat.lt_succ_self t), by dsimp only; rw [hstx, ← Int.add_assoc]; rfl⟩
      · rw [List.take_of_length_le (l := l1) (by omega)]
        refine IxK_map _ rfl hy ?_
        conv => whnf
        refine brNStr (fun h4 => ?_) (fun h4 => ?_) <;> conv => whnf
        · refine WrK_i64 (by omega) (by omega) ?_
          conv => whnf
          exact ⟨i + 1, hil, Nat.sub_lt_sub_left hil (Nat.lt_succ_self i), rfl⟩
        · have hia : ¬ i = (idxOf cat s).toNat := fun e => h4 ((idx_code hE.1.1 hy hE.2.1).2 e.symm).symm
          refine IxK_map _ rfl hy ?_
          conv => whnf
          refine CallK_intro (c_laws_in l0 s0 y.code) ?_
          conv => whnf
          have hlast : inN y.code l1 + qsum F y.code l1 = inN y.code l0 := by
            rw [hi1, hin0 hy, ifP_t trivial, if_neg hia, if_neg hia, hsum]
          refine brNEq (fun h5 => ?_) (fun h5 => absurd hlast h5)
          conv => whnf
          refine WrK_i64 (by omega) (by omega) ?_
          conv => whnf
          exact ⟨i + 1, hil, Nat.sub_lt_sub_left hil (Nat.lt_succ_self i), rfl⟩


theorem bytes_dec {x : D} (h : HasTy (.sl .u8) x) : ∃ b : List Int, x = lD yD b ∧ b.length ≤ 9223372036854775807 ∧ ∀ n ∈ b, 0 ≤ n ∧ n ≤ 255 := by
  obtain ⟨b, e, h1, h2⟩ := sl_dec (f := yD) (ok := fun n => 0 ≤ n ∧ n ≤ 255) (e := .u8) (fun y hy => by cases hy with | u8 n lo hi => exact ⟨n, rfl, lo, hi⟩) h
  exact ⟨b, e, h1, h2⟩
theorem law_FnPhantoms : ∀ xs, HasTys [.sl .u8] xs → Contract Try.prog 12 (xs.map .d) (.one (.d (.sc (.bool true)))) := by
  intro xs h
  obtain ⟨d0, r0, rfl, h0, g0⟩ := HasTys_cons h
  cases HasTys_nil g0
  obtain ⟨b, rfl, hb1, hb2⟩ := bytes_dec h0
  exact law0_FnPhantoms b hb1 hb2
end Go.DL
namespace Go.Proofs.Ytjhjedfnjimflaa
open Go.ChangeShapes Go.WideShapes Go.ChangeAt Go.RowKit
theorem Try.cpD : Try.checked.prog = Try.prog := by kernel_rfl
theorem Try.ownD : ownKnob Try.checked.prog.godebug = none := by kernel_rfl
theorem Try.laidOutD : laidOutB Try.checked.prog = true := by kernel_rfl
theorem Try.lawD : ∀ xs, DL.HasTys [.sl .u8] xs → DL.Contract Try.checked.prog 12 (xs.map .d) (.one (.d (.sc (.bool true)))) := by rw [Try.cpD]; exact DL.law_FnPhantoms
theorem fnPhantoms_lifted (os : Os) (started : os.Started) (H : Type) (enc : TypeId × Value → H) :
    ReturnsInHanded {} Try.checked os 12 .any (Rows.fnPhantomsSpec.pre6 enc Try.checked.prog Try.f12 Rows.fnPhantomsRow.domain false) (Rows.fnPhantomsSpec.post enc Try.checked.prog Try.f12 false true false false) := by
  refine returnsInHanded_of_change (C := Try.checked) Try.ownD started (by kernel_rfl) Try.func12
    (ChangeSpec.witness6 (enc := enc) (C := Try.checked) false ⟨#[], #[.slice none 0 0], []⟩ 8 (by kernel_rfl) (by kernel_rfl) (by kernel_rfl) (by kernel_rfl)) ?_
  intro W base args ds gs before hval0 hW0 _ _
  exact DL.law_calls (P := Try.checked.prog) (fn := Try.f12) (s := Rows.fnPhantomsSpec) (ts := [22]) (tb := 4) (tys := [.sl .u8]) (by kernel_rfl) (by kernel_rfl) (by kernel_rfl) rfl
    (fun ds h => match ds, h with | [d0], _ => rfl) Try.laidOutD (by kernel_rfl) Try.lawD W base args ds gs before @hval0 hW0
/-- The law returns true, whatever comes in. -/
theorem FnPhantoms_holds : Rows.FnPhantomsSaid :=
  OpenClaim.holds_of_wide 12 Try.f12 rfl rfl rfl rfl rfl rfl rfl ⟨rfl, rfl, rfl, rfl, rfl⟩ rfl rfl rfl rfl rfl (by kernel_rfl) Try.func12 (by kernel_rfl)
    (of_decide_eq_true (by kernel_rfl)) (by unfold Func.isWrapper; first | (rw [if_pos (by decide +kernel)]; kernel_rfl) | (rw [if_neg (by decide +kernel)]; exact ⟨rfl, rfl⟩))
    (fun os started H enc _ => fnPhantoms_lifted os started H enc)
end Go.Proofs.Ytjhjedfnjimflaa
namespace Go.DL

end Go.DL
