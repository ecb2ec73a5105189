/- Contracts of functions of the program, at this seat: what each call returns, by its arguments as data; each states its own conditions. -/
import Derived.Test.YtamhoddnnifbiaaT
namespace Go.DL
set_option maxRecDepth 100000
set_option maxHeartbeats 2000000
set_option linter.unusedSimpArgs false
set_option linter.unusedVariables false
open Go.RowKit Go.Proofs Go.Proofs.Ytamhoddnnifbiaa

/-! The cursor of the drawn inputs. -/
abbrev yD (n : Int) : D := .sc (.int .u8 n)
structure CurV where
  b : List Int
  i : Nat
  h : Int
def CurV.dat (c : CurV) : D := .agg [lD yD c.b, iD (c.i : Int), iD c.h]
def CurV.ok (c : CurV) : Prop := c.i ≤ c.b.length ∧ c.b.length ≤ 9000000 ∧ ∀ x ∈ c.b, 0 ≤ x ∧ x ≤ 255
theorem wrap_ok (n : Int) : -9223372036854775808 ≤ IntKind.i64.wrap n ∧ IntKind.i64.wrap n ≤ 9223372036854775807 := by
  rw [IntKind.wrap_i64]; omega
theorem wrap_id {n : Int} (h1 : -9223372036854775808 ≤ n) (h2 : n ≤ 9223372036854775807) : IntKind.i64.wrap n = n := by
  rw [IntKind.wrap_i64]; omega
theorem andI_bound (a b : Int) (h1 : 0 ≤ b) (h2 : b ≤ 4611686018427387904) : 0 ≤ andI .i64 a b ∧ andI .i64 a b ≤ b := by
  unfold andI
  have h3 : (BitVec.ofInt IntKind.i64.bits a &&& BitVec.ofInt IntKind.i64.bits b).toNat ≤ (BitVec.ofInt IntKind.i64.bits b).toNat := by
    rw [BitVec.toNat_and]; exact Nat.and_le_right
  have h4 : (BitVec.ofInt IntKind.i64.bits b).toNat = b.toNat := by
    rw [BitVec.toNat_ofInt]
    show (b % (2 ^ 64 : Nat)).toNat = b.toNat
    congr 1
    omega
  rw [h4] at h3
  rw [wrap_id (by omega) (by omega)]
  omega
@[irreducible] def hN (h : Int) : Int := IntKind.i64.wrap (IntKind.i64.wrap (h * 6364136223846793005) + 1442695040888963407)
@[irreducible] def xN (h : Int) : Int := andI .i64 (xorI .i64 (shrI .i64 h 33) (shrI .i64 h 45)) 255
theorem hN_def (h : Int) : IntKind.i64.wrap (IntKind.i64.wrap (h * 6364136223846793005) + 1442695040888963407) = hN h := by unfold hN; rfl
theorem xN_def (h : Int) : andI .i64 (xorI .i64 (shrI .i64 h 33) (shrI .i64 h 45)) 255 = xN h := by unfold xN; rfl
theorem xN_bound (h : Int) : 0 ≤ xN h ∧ xN h ≤ 255 := by rw [← xN_def]; exact andI_bound _ 255 (by omega) (by omega)
def CurV.next (c : CurV) : CurV := ⟨c.b, if c.i < c.b.length then c.i + 1 else c.i, hN c.h⟩
def CurV.val (c : CurV) : Int := if c.i < c.b.length then andI .i64 (xN (hN c.h) + c.b.getD c.i 0) 255 else xN (hN c.h)
theorem CurV.val_bound (c : CurV) : 0 ≤ c.val ∧ c.val ≤ 255 := by
  unfold CurV.val
  split
  · exact andI_bound _ 255 (by omega) (by omega)
  · exact xN_bound _
theorem CurV.next_ok {c : CurV} (h : c.ok) : c.next.ok := by
  obtain ⟨h1, h2, h3⟩ := h
  refine ⟨?_, h2, h3⟩
  show (if c.i < c.b.length then c.i + 1 else c.i) ≤ c.b.length
  split <;> omega

@[irreducible] def CurV.below (c : CurV) (n : Int) : Int := if n ≤ 0 then 0 else if n ≤ 256 then c.val.tmod n else (c.val * 16777216 + c.next.val * 65536 + c.next.next.val * 256 + c.next.next.next.val).tmod n
@[irreducible] def CurV.aft (c : CurV) (n : Int) : CurV := if n ≤ 0 then c else if n ≤ 256 then c.next else c.next.next.next.next
theorem CurV.aft_ok {c : CurV} (h : c.ok) (n : Int) : (c.aft n).ok := by
  unfold CurV.aft
  split
  · exact h
  · split
    · exact c.next_ok h
    · exact CurV.next_ok (CurV.next_ok (CurV.next_ok (c.next_ok h)))
theorem CurV.below_bound (c : CurV) {n : Int} (h : 0 < n) : 0 ≤ c.below n ∧ c.below n < n := by
  unfold CurV.below
  have h1 := c.val_bound
  have h2 := c.next.val_bound
  have h3 := c.next.next.val_bound
  have h4 := c.next.next.next.val_bound
  rw [if_neg (by omega)]
  split
  · exact ⟨Int.tmod_nonneg _ (by omega), Int.tmod_lt_of_pos _ h⟩
  · exact ⟨Int.tmod_nonneg _ (by omega), Int.tmod_lt_of_pos _ h⟩
theorem CurV.below_le (c : CurV) {n : Int} (h : n ≤ 0) : c.below n = 0 := by unfold CurV.below; rw [if_pos h]
def CurV.pick (c : CurV) (l : List ByteArray) : ByteArray := l.getD (c.below l.length).toNat ⟨#[]⟩
def CurV.pickI (c : CurV) (l : List Int) : Int := l.getD (c.below l.length).toNat 0
theorem CurV.at_lt (c : CurV) {n : Nat} (h : 0 < n) : (c.below n).toNat < n := by have := c.below_bound (n := n) (by omega); omega
theorem CurV.pick_mem (c : CurV) {l : List ByteArray} (h : 0 < l.length) : c.pick l ∈ l := by
  unfold CurV.pick
  have := c.at_lt h
  rw [List.getD_eq_getElem?_getD, List.getElem?_eq_getElem this]
  simp
theorem CurV.pickI_mem (c : CurV) {l : List Int} (h : 0 < l.length) : c.pickI l ∈ l := by
  unfold CurV.pickI
  have := c.at_lt h
  rw [List.getD_eq_getElem?_getD, List.getElem?_eq_getElem this]
  simp

end Go.DL
