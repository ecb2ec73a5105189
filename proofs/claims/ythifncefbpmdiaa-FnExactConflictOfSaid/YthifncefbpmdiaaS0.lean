/- Contracts of functions of the program, at this seat: what each call returns, by its arguments as data; each states its own conditions. -/
import Derived.Test.YthifncefbpmdiaaM
namespace Go.DL
set_option maxRecDepth 100000
set_option maxHeartbeats 2000000
set_option linter.unusedSimpArgs false
set_option linter.unusedVariables false
open Go.RowKit Go.Proofs Go.Proofs.Ythifncefbpmdiaa

/-! Marks. -/
def dByte (k : Int) : ByteArray := ByteArray.empty.push (UInt8.ofNat (IntKind.u8.wrap (48 + k.tmod 10)).toNat)
def digN : Nat → Nat → ByteArray → ByteArray
  | 0, _, out => out
  | f + 1, k, out => if k = 0 then out else digN f (k / 10) (dByte (k : Int) ++ out)
theorem dByte_size (k : Int) : (dByte k).size = 1 := by unfold dByte; simp [ByteArray.size_push]
@[irreducible] def mtext (k : Int) : ByteArray := ⟨#[109]⟩ ++ digN 20 k.toNat ⟨#[]⟩
theorem digN_size : ∀ (f k : Nat) (out : ByteArray), (digN f k out).size ≤ out.size + f
  | 0, _, _ => Nat.le_refl _
  | f + 1, k, out => by
    unfold digN
    split
    · omega
    · have := digN_size f (k / 10) (dByte (k : Int) ++ out)
      rw [ByteArray.size_append, dByte_size] at this
      omega
theorem mtext_ok (k : Int) : okS (mtext k) := by
  unfold mtext okS
  rw [ByteArray.size_append]
  have h1 := digN_size 20 k.toNat ⟨#[]⟩
  have h2 : (⟨#[109]⟩ : ByteArray).size = 1 := rfl
  have h3 : (⟨#[]⟩ : ByteArray).size = 0 := rfl
  omega
theorem get_mid {α : Type} {pre post : List α} {x : α} {i : Nat} (h : pre.length = i) : (pre ++ x :: post)[i]? = some x := by subst h; simp
theorem set_mid {α : Type} {pre post : List α} {x y : α} {i : Nat} (h : pre.length = i) : (pre ++ x :: post).set i y = pre ++ y :: post := by subst h; simp

theorem c_laws_markText (k : Int) (h1 : 1 ≤ k) (h2 : k ≤ 100000000) : Contract Try.prog 83 [.d (iD k)] (.one (.d (sD (mtext k)))) := by
  refine contract_by hma hTa Try.func83 (by kernel_rfl) (by kernel_rfl) ?_
  conv => whnf
  refine brLe (fun h => absurd h (by omega)) (fun _ => ?_)
  conv => whnf
  refine LoopK_intro hma hTa [(0, .pl), (3, .pl)] (fun p : Nat × Nat × ByteArray => ⟨[(0, .d (iD p.2.1)), (3, .d (sD p.2.2))], [], []⟩) (fun p => p.1 + p.2.2.size ≤ 20 ∧ p.2.1 < 10 ^ p.1 ∧ p.2.1 ≤ 100000000 ∧ digN p.1 p.2.1 p.2.2 = digN 20 k.toNat ⟨#[]⟩) (fun p => p.2.1) (by kernel_rfl) ?_ ?_
  · conv => whnf
    refine ⟨(20, k.toNat, ⟨#[]⟩), ⟨Nat.le_refl _, by show k.toNat < 10 ^ 20; omega, by show k.toNat ≤ 100000000; omega, rfl⟩, ?_⟩
    have : ((k.toNat : Nat) : Int) = k := by omega
    dsimp only
    rw [this]
  · rintro ⟨f, n, out⟩ ⟨hs, hn, hn8, hd⟩
    dsimp only at hs hn hn8 hd
    dsimp only
    conv => whnf
    refine brLt (fun h => ?_) (fun h => ?_) <;> conv => whnf
    · have hn1 : 1 ≤ n := by omega
      have hf : f ≠ 0 := by rintro rfl; simp at hn; try omega
      obtain ⟨f, rfl⟩ : ∃ g, f = g + 1 := ⟨f - 1, by omega⟩
      have hnb : n < 10 ^ 20 := Nat.lt_of_lt_of_le hn (Nat.pow_le_pow_right (by omega) (by omega))
      have ht : ((n : Int)).tmod 10 = ((n % 10 : Nat) : Int) := by rw [Int.tmod_eq_emod_of_nonneg (by omega)]; omega
      have hq : ((n : Int)).tdiv 10 = ((n / 10 : Nat) : Int) := by rw [Int.tdiv_eq_ediv_of_nonneg (by omega)]; omega
      refine NeedK_intro (by omega) ?_
      conv => whnf
      refine WrK_i64 (by rw [ht]; omega) (by rw [ht]; omega) ?_
      conv => whnf
      refine WrK_any ?_
      conv => whnf
      refine NeedK_intro (by
        have e : (dByte (n : Int)).size = 1 := dByte_size _
        show (dByte (n : Int)).size + out.size ≤ 9223372036854775807
        omega) ?_
      conv => whnf
      refine NeedK_intro (by omega) ?_
      conv => whnf
      rw [hq]
      refine WrK_i64 (by omega) (by omega) ?_
      conv => whnf
      refine ⟨(f, n / 10, dByte (n : Int) ++ out), ⟨?_, ?_, (by show n / 10 ≤ 100000000; omega), ?_⟩, Nat.div_lt_self (by omega) (by omega), rfl⟩
      · show f + (dByte (n : Int) ++ out).size ≤ 20
        rw [ByteArray.size_append, dByte_size]
        omega
      · show n / 10 < 10 ^ f
        rw [Nat.pow_succ] at hn
        exact Nat.div_lt_of_lt_mul (by omega)
      · rw [← hd]
        show digN f (n / 10) _ = digN (f + 1) n out
        rw [digN, if_neg (by omega)]
    · have h0 : n = 0 := by omega
      subst h0
      have hd0 : digN f 0 out = out := by cases f <;> simp [digN]
      have hm : mtext k = ⟨#[109]⟩ ++ out := by unfold mtext; rw [← hd, hd0]
      rw [hm]
      refine NeedK_intro (by
        have : (⟨#[109]⟩ : ByteArray).size = 1 := rfl
        omega) ?_
      conv => whnf

end Go.DL
