/- Contracts of functions of the program, at this seat: what each call returns, by its arguments as data; each states its own conditions. -/
import Derived.Test.YthfagmoaoihhpaaT
namespace Go.DL
set_option maxRecDepth 100000
set_option maxHeartbeats 2000000
set_option linter.unusedSimpArgs false
set_option linter.unusedVariables false
open Go.RowKit Go.Proofs Go.Proofs.Ythfagmoaoihhpaa

/-! The cursor of the drawn inputs. -/
abbrev yD (n : Int) : D := .sc (.int .u8 n)
structure CurV where
  b : List Int
  i : Nat
  h : Int
def CurV.dat (c : CurV) : D := .agg [lD yD c.b, iD (c.i : Int), iD c.h]
def CurV.ok (c : CurV) : Prop := c.i ≤ c.b.length ∧ c.b.length ≤ 9000000 ∧ ∀ x ∈ c.b, 0 ≤ x ∧ x ≤ 255
theorem wrap_ok (n : Int) : -9223372036854775808 ≤ IntKind.i64.wrap n ∧ IntKind.i64.wrap n ≤ 9223372036854775807 := by
  rw [IntKind.wrap_i64]; omega
theorem wrap_id {n : Int} (h1 : -9223372036854775808 ≤ n) (h2 : n ≤ 9223372036854775807) : IntKind.i64.wrap n = n := by
  rw [IntKind.wrap_i64]; omega
theorem andI_bound (a b : Int) (h1 : 0 ≤ b) (h2 : b ≤ 4611686018427387904) : 0 ≤ andI .i64 a b ∧ andI .i64 a b ≤ b := by
  unfold andI
  have h3 : (BitVec.ofInt IntKind.i64.bits a &&& BitVec.ofInt IntKind.i64.bits b).toNat ≤ (BitVec.ofInt IntKind.i64.bits b).toNat := by
    rw [BitVec.toNat_and]; exact Nat.and_le_right
  have h4 : (BitVec.ofInt IntKind.i64.bits b).toNat = b.toNat := by
    rw [BitVec.toNat_ofInt]
    show (b % (2 ^ 64 : Nat)).toNat = b.toNat
    congr 1
    omega
  rw [h4] at h3
  rw [wrap_id (by omega) (by omega)]
  omega
@[irreducible] def hN (h : Int) : Int := IntKind.i64.wrap (IntKind.i64.wrap (h * 6364136223846793005) + 1442695040888963407)
@[irreducible] def xN (h : Int) : Int := andI .i64 (xorI .i64 (shrI .i64 h 33) (shrI .i64 h 45)) 255
theorem hN_def (h : Int) : IntKind.i64.wrap (IntKind.i64.wrap (h * 6364136223846793005) + 1442695040888963407) = hN h := by unfold hN; rfl
theorem xN_def (h : Int) : andI .i64 (xorI .i64 (shrI .i64 h 33) (shrI .i64 h 45)) 255 = xN h := by unfold xN; rfl
theorem xN_bound (h : Int) : 0 ≤ xN h ∧ xN h ≤ 255 := by rw [← xN_def]; exact andI_bound _ 255 (by omega) (by omega)
def CurV.next (c : CurV) : CurV := ⟨c.b, if c.i < c.b.length then c.i + 1 else c.i, hN c.h⟩
def CurV.val (c : CurV) : Int := if c.i < c.b.length then andI .i64 (xN (hN c.h) + c.b.getD c.i 0) 255 else xN (hN c.h)
theorem CurV.val_bound (c : CurV) : 0 ≤ c.val ∧ c.val ≤ 255 := by
  unfold CurV.val
  split
  · exact andI_bound _ 255 (by omega) (by omega)
  · exact xN_bound _
theorem CurV.next_ok {c : CurV} (h : c.ok) : c.next.ok := by
  obtain ⟨h1, h2, h3⟩ := h
  refine ⟨?_, h2, h3⟩
  show (if c.i < c.b.length then c.i + 1 else c.i) ≤ c.b.length
  split <;> omega

abbrev curA (c : CurV) : Arr := ⟨61, 3, [c.dat]⟩
theorem c_spec_l1Byte (c : CurV) (hc : c.ok) : LContract Try.prog 45 [.lp] (some (curA c)) (fun r xs => r = .one (.d (iD c.val)) ∧ xs = [c.next.dat]) := by
  refine contract_byL [] hma hTa Try.func45 (by kernel_rfl) (by kernel_rfl) ?_
  obtain ⟨h1, h2, h3⟩ := hc
  have hx := xN_bound (hN c.h)
  conv => whnf
  refine WrK_any ?_
  conv => whnf
  refine WrK_any ?_
  conv => whnf
  refine NeedK_intro (by omega) ?_
  conv => whnf
  refine NeedK_intro (by omega) ?_
  conv => whnf
  have hx2 := hx
  rw [← xN_def, ← hN_def] at hx2
  have e1 : (List.map yD c.b).length = c.b.length := List.length_map _
  refine brLt (fun h => ?_) (fun h => ?_) <;> conv => whnf
  · refine IxK_mapLt _ rfl (by omega) (fun y hy => ?_)
    conv => whnf
    have hyb := h3 y (get_mem hy)
    have hil := get_lt hy
    refine WrK_i64 (by omega) (by omega) ?_
    conv => whnf
    refine WrK_i64 (by omega) (by omega) ?_
    conv => whnf
    refine WrK_i64 (by omega) (by omega) ?_
    conv => whnf
    refine ⟨rfl, rfl, rfl, .one (.d (iD c.val)), ⟨rfl, ?_⟩, ?_⟩
    · unfold CurV.next CurV.dat
      rw [if_pos hil, hN_def]
      rfl
    · refine ⟨rfl, ?_, trivial⟩
      unfold CurV.val
      rw [if_pos hil, hN_def, xN_def, show c.b.getD c.i 0 = y by simp [hy]]
  · have hil : ¬ c.i < c.b.length := by omega
    refine ⟨rfl, rfl, rfl, .one (.d (iD c.val)), ⟨rfl, ?_⟩, ?_⟩
    · unfold CurV.next CurV.dat
      rw [if_neg hil, hN_def]
    · refine ⟨rfl, ?_, trivial⟩
      unfold CurV.val
      rw [if_neg hil, hN_def, xN_def]

@[irreducible] def CurV.below (c : CurV) (n : Int) : Int := if n ≤ 0 then 0 else if n ≤ 256 then c.val.tmod n else (c.val * 16777216 + c.next.val * 65536 + c.next.next.val * 256 + c.next.next.next.val).tmod n
@[irreducible] def CurV.aft (c : CurV) (n : Int) : CurV := if n ≤ 0 then c else if n ≤ 256 then c.next else c.next.next.next.next
theorem CurV.aft_ok {c : CurV} (h : c.ok) (n : Int) : (c.aft n).ok := by
  unfold CurV.aft
  split
  · exact h
  · split
    · exact c.next_ok h
    · exact CurV.next_ok (CurV.next_ok (CurV.next_ok (c.next_ok h)))
theorem CurV.below_bound (c : CurV) {n : Int} (h : 0 < n) : 0 ≤ c.below n ∧ c.below n < n := by
  unfold CurV.below
  have h1 := c.val_bound
  have h2 := c.next.val_bound
  have h3 := c.next.next.val_bound
  have h4 := c.next.next.next.val_bound
  rw [if_neg (by omega)]
  split
  · exact ⟨Int.tmod_nonneg _ (by omega), Int.tmod_lt_of_pos _ h⟩
  · exact ⟨Int.tmod_nonneg _ (by omega), Int.tmod_lt_of_pos _ h⟩
theorem CurV.below_le (c : CurV) {n : Int} (h : n ≤ 0) : c.below n = 0 := by unfold CurV.below; rw [if_pos h]
def CurV.pick (c : CurV) (l : List ByteArray) : ByteArray := l.getD (c.below l.length).toNat ⟨#[]⟩
def CurV.pickI (c : CurV) (l : List Int) : Int := l.getD (c.below l.length).toNat 0
theorem CurV.at_lt (c : CurV) {n : Nat} (h : 0 < n) : (c.below n).toNat < n := by have := c.below_bound (n := n) (by omega); omega
theorem CurV.pick_mem (c : CurV) {l : List ByteArray} (h : 0 < l.length) : c.pick l ∈ l := by
  unfold CurV.pick
  have := c.at_lt h
  rw [List.getD_eq_getElem?_getD, List.getElem?_eq_getElem this]
  simp
theorem CurV.pickI_mem (c : CurV) {l : List Int} (h : 0 < l.length) : c.pickI l ∈ l := by
  unfold CurV.pickI
  have := c.at_lt h
  rw [List.getD_eq_getElem?_getD, List.getElem?_eq_getElem this]
  simp

theorem c_spec_l1Below (c : CurV) (hc : c.ok) (n : Int) : LContract Try.prog 37 [.lp, .d (iD n)] (some (curA c)) (fun r xs => r = .one (.d (iD (c.below n))) ∧ xs = [(c.aft n).dat]) := by
  refine contract_byL [100000 + 45] hma hTa Try.func37 (by kernel_rfl) (by kernel_rfl) ?_
  conv => whnf
  refine brLe (fun h => ?_) (fun h => ?_) <;> conv => whnf
  · refine ⟨rfl, rfl, rfl, .one (.d (iD (c.below n))), ⟨rfl, ?_⟩, ?_⟩
    · unfold CurV.aft; rw [if_pos h]
    · refine ⟨rfl, ?_, trivial⟩
      rw [c.below_le h]
  have h1 := c.val_bound
  have h2 := c.next.val_bound
  have h3 := c.next.next.val_bound
  have h4 := c.next.next.next.val_bound
  refine brLe (fun h5 => ?_) (fun h5 => ?_) <;> conv => whnf
  · refine LCallK_intro (c_spec_l1Byte c hc) ?_
    conv => whnf
    refine NeedK_intro (by omega) ?_
    conv => whnf
    refine ⟨rfl, rfl, rfl, .one (.d (iD (c.below n))), ⟨rfl, ?_⟩, ?_⟩
    · unfold CurV.aft; rw [if_neg (by omega), if_pos h5]
    · refine ⟨rfl, ?_, trivial⟩
      unfold CurV.below; rw [if_neg (by omega), if_pos h5]
  · refine LCallK_intro (c_spec_l1Byte c hc) ?_
    conv => whnf
    refine LCallK_intro (c_spec_l1Byte _ (c.next_ok hc)) ?_
    conv => whnf
    refine LCallK_intro (c_spec_l1Byte _ (CurV.next_ok (c.next_ok hc))) ?_
    conv => whnf
    refine LCallK_intro (c_spec_l1Byte _ (CurV.next_ok (CurV.next_ok (c.next_ok hc)))) ?_
    conv => whnf
    repeat' (refine WrK_i64 (by omega) (by omega) ?_; conv => whnf)
    refine NeedK_intro (by omega) ?_
    conv => whnf
    refine ⟨rfl, rfl, rfl, .one (.d (iD (c.below n))), ⟨rfl, ?_⟩, ?_⟩
    · unfold CurV.aft; rw [if_neg (by omega), if_neg (by omega)]
    · refine ⟨rfl, ?_, trivial⟩
      unfold CurV.below; rw [if_neg (by omega), if_neg (by omega)]

theorem c_spec_l1Once (c : CurV) (hc : c.ok) (n : Int) : LContract Try.prog 40 [.lp, .d (iD n)] (some (curA c)) (fun r xs => r = .one (.d (bD (eqB (c.below n) 0))) ∧ xs = [(c.aft n).dat]) := by
  refine contract_byL [100000 + 37] hma hTa Try.func40 (by kernel_rfl) (by kernel_rfl) ?_
  conv => whnf
  refine LCallK_intro (c_spec_l1Below c hc n) ?_
  conv => whnf
  exact ⟨rfl, rfl, rfl, .one (.d (bD (eqB (c.below n) 0))), ⟨rfl, rfl⟩, rfl, rfl, trivial⟩

theorem c_spec_l1Pick (c : CurV) (hc : c.ok) (l : List ByteArray) (h0 : 0 < l.length) (h1 : l.length ≤ 1000) : LContract Try.prog 28 [.lp, .d (lD sD l)] (some (curA c)) (fun r xs => r = .one (.d (sD (c.pick l))) ∧ xs = [(c.aft l.length).dat]) := by
  refine contract_byL [100000 + 37] hma hTa Try.func28 (by kernel_rfl) (by kernel_rfl) ?_
  conv => whnf
  have e1 : (List.map sD l).length = l.length := List.length_map _
  rw [e1]
  refine LCallK_intro (c_spec_l1Below c hc _) ?_
  conv => whnf
  have hb := c.below_bound (n := l.length) (by omega)
  have ha := c.at_lt h0
  refine IxK_map (c.below l.length).toNat (by omega) (x := c.pick l) (by unfold CurV.pick; rw [List.getD_eq_getElem?_getD, List.getElem?_eq_getElem ha]; rfl) ?_
  conv => whnf
  exact ⟨rfl, rfl, rfl, .one (.d (sD (c.pick l))), ⟨rfl, rfl⟩, rfl, rfl, trivial⟩

end Go.DL
