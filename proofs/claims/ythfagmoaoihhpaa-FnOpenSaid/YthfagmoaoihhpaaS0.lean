/- Contracts of functions of the program, at this seat: what each call returns, by its arguments as data; each states its own conditions. -/
import Derived.Test.YthfagmoaoihhpaaT
namespace Go.DL
set_option maxRecDepth 100000
set_option maxHeartbeats 2000000
set_option linter.unusedSimpArgs false
set_option linter.unusedVariables false
open Go.RowKit Go.Proofs Go.Proofs.Ythfagmoaoihhpaa

/-! Marks. -/
def dByte (k : Int) : ByteArray := ByteArray.empty.push (UInt8.ofNat (IntKind.u8.wrap (48 + k.tmod 10)).toNat)
def digN : Nat → Nat → ByteArray → ByteArray
  | 0, _, out => out
  | f + 1, k, out => if k = 0 then out else digN f (k / 10) (dByte (k : Int) ++ out)
theorem dByte_size (k : Int) : (dByte k).size = 1 := by unfold dByte; simp [ByteArray.size_push]
@[irreducible] def mtext (k : Int) : ByteArray := ⟨#[109]⟩ ++ digN 20 k.toNat ⟨#[]⟩
theorem digN_size : ∀ (f k : Nat) (out : ByteArray), (digN f k out).size ≤ out.size + f
  | 0, _, _ => Nat.le_refl _
  | f + 1, k, out => by
    unfold digN
    split
    · omega
    · have := digN_size f (k / 10) (dByte (k : Int) ++ out)
      rw [ByteArray.size_append, dByte_size] at this
      omega
theorem mtext_ok (k : Int) : okS (mtext k) := by
  unfold mtext okS
  rw [ByteArray.size_append]
  have h1 := digN_size 20 k.toNat ⟨#[]⟩
  have h2 : (⟨#[109]⟩ : ByteArray).size = 1 := rfl
  have h3 : (⟨#[]⟩ : ByteArray).size = 0 := rfl
  omega
theorem get_mid {α : Type} {pre post : List α} {x : α} {i : Nat} (h : pre.length = i) : (pre ++ x :: post)[i]? = some x := by subst h; simp
theorem set_mid {α : Type} {pre post : List α} {x y : α} {i : Nat} (h : pre.length = i) : (pre ++ x :: post).set i y = pre ++ y :: post := by subst h; simp

end Go.DL
