/- Contracts of functions of the program, at this seat: what each call returns, by its arguments as data; each states its own conditions. -/
import Derived.Test.YtjhjedfnjimflaaPI
namespace Go.DL
set_option maxRecDepth 100000
set_option maxHeartbeats 2000000
set_option linter.unusedSimpArgs false
set_option linter.unusedVariables false
open Go.RowKit Go.Proofs Go.Proofs.Ytjhjedfnjimflaa

theorem partP_lin {E : List EQ} {O Pr : Nat → Prop} {N M : Nat → Int} {q : Int} (h : ∀ j, N j = q * M j) (j : Nat) : partP E O Pr N j = q * partP E O Pr M j := by
  unfold partP
  induction E with
  | nil => simp [sumI]
  | cons e l ih =>
    rw [sumI_cons, sumI_cons, ih, Int.mul_add]
    congr 1
    split
    · rw [h, Int.mul_left_comm]
    · rw [Int.mul_zero]
theorem downF_lin {E : List EQ} {O : Nat → Prop} {a : Nat} {q : Int} : ∀ k j, downF E O a q k j = q * downF E O a 1 k j
  | 0, _ => by simp [downF]
  | k + 1, j => by
    show (if j = a then q else 0) + partP E O (fun _ => True) (downF E O a q k) j = q * ((if j = a then 1 else 0) + partP E O (fun _ => True) (downF E O a 1 k) j)
    rw [partP_lin (downF_lin k), Int.mul_add]
    congr 1
    split <;> simp
theorem pieN_lin (cat : List ItemV) (act : List LineV) (Op : ItemV → Prop) (a : Nat) (q : Int) (j : Nat) : pieN cat act Op a q j = q * pieN cat act Op a 1 j := downF_lin _ _
theorem pieN_nn {cat : List ItemV} {lines act : List LineV} (hA : ActOK cat lines act) (Op : ItemV → Prop) (a : Nat) {q : Int} (hq : 0 ≤ q) (j : Nat) : 0 ≤ pieN cat act Op a q j := (pie_ok hA.self Op a hq).sol.nn j
theorem expP_le {cat : List ItemV} {lines : List LineV} {s : ByteArray} {q p day : Int} {c : List PickV} {Op : ItemV → Prop} (h : expP cat lines s q day c Op) (h0 : 0 ≤ p) (h1 : p ≤ q) : expP cat lines s p day c Op := by
  obtain ⟨hb, hi, hq, hN⟩ := h
  unfold inP at hq
  refine ⟨hb, hi, ⟨h0, by omega⟩, fun j hj => ?_⟩
  have h2 := hN j hj
  have h3 := pieN_nn (act_ok hb day c) Op (idxOf cat s).toNat (q := 1) (by omega) j
  unfold expN at h2 ⊢
  rw [pieN_lin] at h2 ⊢
  exact Int.le_trans (Int.mul_le_mul_of_nonneg_right h1 h3) h2
theorem expL_small {cat : List ItemV} {lines : List LineV} {s : ByteArray} {q day : Int} {c : List PickV} {Op P : ItemV → Prop} (h : expP cat lines s q day c Op) : smallL (expL cat lines s q day c Op P) := by
  have h12 := h.1.1.2
  have hl : (expL cat lines s q day c Op P).length ≤ 12 := Nat.le_trans (need_len _) h12
  have hx : ∀ x ∈ expL cat lines s q day c Op P, 0 ≤ x.quantity ∧ x.quantity ≤ 1000000000 ∧ ∃ y ∈ cat, x.code = y.code := fun x hx => by
    obtain ⟨j, y, h1, h2, h3, _, rfl⟩ := need_mem hx
    have h4 := h.2.2.2 j h1
    refine ⟨by dsimp only at h3 ⊢; omega, ?_, y, get_mem h2, rfl⟩
    dsimp only
    split
    · omega
    · exact h4
  exact ⟨by omega, fun x h => ⟨(hx x h).1, (hx x h).2.1⟩⟩
theorem in_exp {cat : List ItemV} {lines : List LineV} {s : ByteArray} {q day : Int} {c : List PickV} {Op P : ItemV → Prop} (h : expP cat lines s q day c Op) {i : Nat} {y : ItemV} (hy : cat[i]? = some y) : inN y.code (expL cat lines s q day c Op P) = ifP (P y) (if i = (idxOf cat s).toNat then 0 else expN cat lines s q day c Op i) 0 := by
  have hq : 0 ≤ q := h.2.2.1.1
  have h0 : 0 ≤ expN cat lines s q day c Op i := pieN_nn (act_ok h.1 day c) Op (idxOf cat s).toNat hq i
  unfold expL
  rw [in_need h.1.1 hy, if_pos (get_lt hy)]
  generalize hx : (if i = (idxOf cat s).toNat then 0 else expN cat lines s q day c Op i) = x
  have hx0 : 0 ≤ x := by rw [← hx]; split <;> omega
  by_cases hp : P y
  · rw [ifP_t hp]
    by_cases h1 : 0 < x
    · rw [ifP_t ⟨h1, hp⟩]
    · rw [ifP_f (fun h => h1 h.1)]; omega
  · rw [ifP_f hp, ifP_f (fun h => hp h.2)]

end Go.DL
