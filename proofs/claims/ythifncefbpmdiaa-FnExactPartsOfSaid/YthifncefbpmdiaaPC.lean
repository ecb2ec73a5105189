/- Contracts of functions of the program, at this seat: what each call returns, by its arguments as data; each states its own conditions. -/
import Derived.Test.YthifncefbpmdiaaP9
namespace Go.DL
set_option maxRecDepth 100000
set_option maxHeartbeats 2000000
set_option linter.unusedSimpArgs false
set_option linter.unusedVariables false
open Go.RowKit Go.Proofs Go.Proofs.Ythifncefbpmdiaa

/-! What an item takes, reckoned downwards. -/
open Classical in
noncomputable def partP (E : List EQ) (O Pr : Nat → Prop) (N : Nat → Int) (j : Nat) : Int := sumI (fun e : EQ => if e.2.1 = j ∧ O e.1 ∧ Pr e.1 then e.2.2 * N e.1 else 0) E
noncomputable def downF (E : List EQ) (O : Nat → Prop) (a : Nat) (q : Int) : Nat → Nat → Int
  | 0 => fun _ => 0
  | k + 1 => fun j => (if j = a then q else 0) + partP E O (fun _ => True) (downF E O a q k) j
structure SolD (E : List EQ) (O : Nat → Prop) (a : Nat) (q : Int) (N : Nat → Int) : Prop where
  nn : ∀ j, 0 ≤ N j
  eq : ∀ j, N j = (if j = a then q else 0) + partP E O (fun _ => True) N j
theorem partP_nn {E : List EQ} {O Pr : Nat → Prop} {N : Nat → Int} (hq : ∀ e ∈ E, 0 ≤ e.2.2) (hN : ∀ j, 0 ≤ N j) (j : Nat) : 0 ≤ partP E O Pr N j := by
  refine sumI_nonneg fun e he => ?_
  split
  · exact Int.mul_nonneg (hq e he) (hN _)
  · omega
theorem downF_nn {E : List EQ} {O : Nat → Prop} {a : Nat} {q : Int} (hq : ∀ e ∈ E, 0 ≤ e.2.2) (h0 : 0 ≤ q) : ∀ k j, 0 ≤ downF E O a q k j
  | 0, _ => Int.le_refl _
  | k + 1, j => by
    have := partP_nn (O := O) (Pr := fun _ => True) hq (downF_nn (O := O) (a := a) hq h0 k) j
    show 0 ≤ (if j = a then q else 0) + partP E O (fun _ => True) (downF E O a q k) j
    split <;> omega
theorem downF_stab {E : List EQ} {O : Nat → Prop} {a : Nat} {q : Int} {f : Nat → Int} (hf : ∀ e ∈ E, f e.1 < f e.2.1) (h0 : ∀ j, 0 ≤ f j) : ∀ (m j k k' : Nat), f j < m → m ≤ k → m ≤ k' → downF E O a q k j = downF E O a q k' j
  | 0, j, _, _, h, _, _ => by have := h0 j; omega
  | m + 1, j, k + 1, k' + 1, h, h1, h2 => by
    show (if j = a then q else 0) + partP E O (fun _ => True) (downF E O a q k) j = (if j = a then q else 0) + partP E O (fun _ => True) (downF E O a q k') j
    congr 1
    refine sumI_congr fun e he => ?_
    split
    · rename_i e1
      have := hf e he
      rw [e1.1] at this
      rw [downF_stab hf h0 m e.1 k k' (by omega) (by omega) (by omega)]
    · rfl
noncomputable def solD (E : List EQ) (O : Nat → Prop) (a : Nat) (q : Int) (n : Nat) : Nat → Int := downF E O a q (n + 2)
theorem solD_ok {E : List EQ} {O : Nat → Prop} {a : Nat} {q : Int} {f : Nat → Int} {n : Nat} (hf : ∀ e ∈ E, f e.1 < f e.2.1) (h0 : ∀ j, 0 ≤ f j) (hb : ∀ j, f j ≤ n) (hq : ∀ e ∈ E, 0 ≤ e.2.2) (hq0 : 0 ≤ q) : SolD E O a q (solD E O a q n) := by
  refine ⟨downF_nn hq hq0 _, fun j => ?_⟩
  show (if j = a then q else 0) + partP E O (fun _ => True) (downF E O a q (n + 1)) j = _
  congr 1
  refine sumI_congr fun e he => ?_
  split
  · rename_i e1
    have h1 := hf e he
    have h2 := hb e.2.1
    rw [show downF E O a q (n + 1) e.1 = solD E O a q n e.1 from downF_stab hf h0 (n + 1) e.1 (n + 1) (n + 2) (by omega) (by omega) (by omega)]
  · rfl
theorem partP_congr {E : List EQ} {O Pr Pr' : Nat → Prop} {N : Nat → Int} {j : Nat} (h : ∀ e ∈ E, e.2.1 = j → O e.1 → N e.1 ≠ 0 → (Pr e.1 ↔ Pr' e.1)) : partP E O Pr N j = partP E O Pr' N j := by
  refine sumI_congr fun e he => ?_
  by_cases h1 : e.2.1 = j ∧ O e.1
  · by_cases h2 : N e.1 = 0
    · rw [h2, Int.mul_zero]; (repeat' split) <;> rfl
    · have := h e he h1.1 h1.2 h2
      by_cases h3 : Pr e.1
      · rw [if_pos ⟨h1.1, h1.2, h3⟩, if_pos ⟨h1.1, h1.2, this.1 h3⟩]
      · rw [if_neg (fun h => h3 h.2.2), if_neg (fun h => h3 (this.2 h.2.2))]
  · rw [if_neg (fun h => h1 ⟨h.1, h.2.1⟩), if_neg (fun h => h1 ⟨h.1, h.2.1⟩)]
theorem sumI_mono {α : Type} {f g : α → Int} : ∀ {l : List α}, (∀ x ∈ l, f x ≤ g x) → sumI f l ≤ sumI g l
  | [], _ => Int.le_refl _
  | x :: l, h => by
    have h1 := h x (by simp)
    have h2 := sumI_mono (l := l) fun y hy => h y (by simp [hy])
    rw [sumI_cons, sumI_cons]; omega
theorem partP_le {E : List EQ} {O Pr Pr' : Nat → Prop} {N : Nat → Int} (hq : ∀ e ∈ E, 0 ≤ e.2.2) (hN : ∀ j, 0 ≤ N j) (h : ∀ p, Pr p → Pr' p) (j : Nat) : partP E O Pr N j ≤ partP E O Pr' N j := by
  refine sumI_mono fun e he => ?_
  have := Int.mul_nonneg (hq e he) (hN e.1)
  by_cases h1 : e.2.1 = j ∧ O e.1 ∧ Pr e.1
  · rw [if_pos h1, if_pos ⟨h1.1, h1.2.1, h _ h1.2.2⟩]; exact Int.le_refl _
  · rw [if_neg h1]; split <;> omega
/-- What has been passed on by the first k lines of item i. -/
def partI (E : List EQ) (i : Nat) (N : Nat → Int) (k j : Nat) : Int := sumI (fun e : EQ => if e.2.1 = j ∧ e.1 = i then e.2.2 * N i else 0) (E.take k)
theorem partI_step {E : List EQ} {i k j : Nat} {N : Nat → Int} {e : EQ} (h : E[k]? = some e) : partI E i N (k + 1) j = partI E i N k j + (if e.2.1 = j ∧ e.1 = i then e.2.2 * N i else 0) := by unfold partI; rw [sumI_take h]
theorem partP_y {E : List EQ} {O Pr : Nat → Prop} {j : Nat} {N : Nat → Int} {e : EQ} (h : e.2.1 = j ∧ O e.1 ∧ Pr e.1) : partP (e :: E) O Pr N j = e.2.2 * N e.1 + partP E O Pr N j := by unfold partP; rw [sumI_cons, if_pos h]
theorem partP_n {E : List EQ} {O Pr : Nat → Prop} {j : Nat} {N : Nat → Int} {e : EQ} (h : ¬ (e.2.1 = j ∧ O e.1 ∧ Pr e.1)) : partP (e :: E) O Pr N j = partP E O Pr N j := by unfold partP; rw [sumI_cons, if_neg h]; omega
theorem partI_full {E : List EQ} {O Pr : Nat → Prop} {i j : Nat} {N : Nat → Int} (hO : O i) (hP : ¬ Pr i) : partP E O Pr N j + partI E i N E.length j = partP E O (fun p => Pr p ∨ p = i) N j := by
  unfold partI
  rw [List.take_length]
  induction E with
  | nil => rfl
  | cons e l ih =>
    rw [sumI_cons]
    by_cases h1 : e.2.1 = j
    · by_cases h2 : e.1 = i
      · rw [partP_n (fun h => hP (h2 ▸ h.2.2)), partP_y ⟨h1, h2 ▸ hO, .inr h2⟩, if_pos ⟨h1, h2⟩, ← ih, h2]; omega
      · by_cases h3 : O e.1 ∧ Pr e.1
        · rw [partP_y ⟨h1, h3⟩, partP_y ⟨h1, h3.1, .inl h3.2⟩, if_neg (fun h => h2 h.2), ← ih]; omega
        · rw [partP_n (fun h => h3 h.2), partP_n (fun h => h3 ⟨h.2.1, h.2.2.resolve_right h2⟩), if_neg (fun h => h2 h.2), ← ih]; omega
    · rw [partP_n (fun h => h1 h.1), partP_n (fun h => h1 h.1), if_neg (fun h => h1 h.1), ← ih]; omega
theorem partI_nn {E : List EQ} {i k j : Nat} {N : Nat → Int} (hq : ∀ e ∈ E, 0 ≤ e.2.2) (hN : 0 ≤ N i) : 0 ≤ partI E i N k j := by
  refine sumI_nonneg fun e he => ?_
  split
  · exact Int.mul_nonneg (hq e (List.mem_of_mem_take he)) hN
  · omega
theorem partI_mono {E : List EQ} {i k j : Nat} {N : Nat → Int} (hq : ∀ e ∈ E, 0 ≤ e.2.2) (hN : 0 ≤ N i) : partI E i N k j ≤ partI E i N E.length j := by
  have e2 : partI E i N E.length j = partI E i N k j + sumI (fun e : EQ => if e.2.1 = j ∧ e.1 = i then e.2.2 * N i else 0) (E.drop k) := by
    unfold partI
    rw [List.take_length, ← sumI_append, List.take_append_drop]
  have : 0 ≤ sumI (fun e : EQ => if e.2.1 = j ∧ e.1 = i then e.2.2 * N i else 0) (E.drop k) := sumI_nonneg fun e he => by
    split
    · exact Int.mul_nonneg (hq e (List.mem_of_mem_drop he)) hN
    · omega
  omega
noncomputable def dlt (a : Nat) (q : Int) (j : Nat) : Int := if j = a then q else 0
/-- The two ways of reckoning agree. -/
theorem down_up {E : List EQ} {a b n : Nat} {q : Int} {N S : Nat → Int} (hN : SolD E (fun _ => True) a q N) (hS : ∀ i, S i = (if i = b then 1 else 0) + partW E S i) (hE : ∀ e ∈ E, e.1 < n ∧ e.2.1 < n) (ha : a < n) (hb : b < n) : N b = q * S a := by
  -- sums over the items
  have sw : ∀ (g : Nat → Int) (c : Nat) (v : Int), c < n → sumTo (fun i => g i * (if i = c then v else 0)) n = g c * v := by
    intro g c v
    have key : ∀ m, sumTo (fun i => g i * (if i = c then v else 0)) m = if c < m then g c * v else 0 := by
      intro m
      induction m with
      | zero => simp [sumTo]
      | succ m ih =>
        simp only [sumTo, ih]
        by_cases h : m = c
        · subst h; simp
        · rw [if_neg h, Int.mul_zero, Int.add_zero]
          by_cases h2 : c < m
          · rw [if_pos h2, if_pos (by omega)]
          · rw [if_neg h2, if_neg (by omega)]
    intro hc
    rw [key, if_pos hc]
  have add : ∀ (g h : Nat → Int) (m : Nat), sumTo (fun i => g i + h i) m = sumTo g m + sumTo h m := by
    intro g h m
    induction m with
    | zero => rfl
    | succ m ih => simp only [sumTo, ih]; omega
  have cg : ∀ (g h : Nat → Int) (m : Nat), (∀ i, g i = h i) → sumTo g m = sumTo h m := fun g h m e => by rw [funext e]
  have zr : ∀ m, sumTo (fun _ => 0) m = 0 := fun m => by induction m with | zero => rfl | succ m ih => simp only [sumTo, ih]; rfl
  have ex1 : ∀ l : List EQ, (∀ e ∈ l, e.1 < n ∧ e.2.1 < n) → sumTo (fun i => N i * partW l S i) n = sumI (fun e : EQ => N e.1 * (e.2.2 * S e.2.1)) l := by
    intro l hl
    induction l with
    | nil =>
      rw [cg _ (fun _ => 0) n (fun i => by simp [partW, partP, sumI]), zr]; rfl
    | cons e l ih =>
      have h1 : ∀ i, N i * partW (e :: l) S i = N i * (if i = e.1 then e.2.2 * S e.2.1 else 0) + N i * partW l S i := fun i => by
        unfold partW
        rw [sumI_cons, Int.mul_add]
        congr 2
        by_cases h : e.1 = i
        · rw [if_pos h, if_pos h.symm]
        · rw [if_neg h, if_neg (fun e => h e.symm)]
      rw [cg _ _ n h1, add, sw N e.1 _ (hl e (by simp)).1, ih fun x hx => hl x (by simp [hx]), sumI_cons]
  have ex2 : ∀ l : List EQ, (∀ e ∈ l, e.1 < n ∧ e.2.1 < n) → sumTo (fun j => S j * partP l (fun _ => True) (fun _ => True) N j) n = sumI (fun e : EQ => N e.1 * (e.2.2 * S e.2.1)) l := by
    intro l hl
    induction l with
    | nil =>
      rw [cg _ (fun _ => 0) n (fun i => by simp [partW, partP, sumI]), zr]; rfl
    | cons e l ih =>
      have h1 : ∀ i, S i * partP (e :: l) (fun _ => True) (fun _ => True) N i = S i * (if i = e.2.1 then e.2.2 * N e.1 else 0) + S i * partP l (fun _ => True) (fun _ => True) N i := fun i => by
        unfold partP
        rw [sumI_cons, Int.mul_add]
        congr 2
        by_cases h : e.2.1 = i
        · rw [if_pos ⟨h, trivial, trivial⟩, if_pos h.symm]
        · rw [if_neg (fun x => h x.1), if_neg (fun e => h e.symm)]
      rw [cg _ _ n h1, add, sw S e.2.1 _ (hl e (by simp)).2, ih fun x hx => hl x (by simp [hx]), sumI_cons]
      congr 1
      rw [Int.mul_comm, Int.mul_comm e.2.2, Int.mul_assoc]
  have t1 : sumTo (fun i => N i * S i) n = N b * 1 + sumI (fun e : EQ => N e.1 * (e.2.2 * S e.2.1)) E := by
    rw [cg (fun i => N i * S i) (fun i => N i * (if i = b then 1 else 0) + N i * partW E S i) n (fun i => by rw [← Int.mul_add, ← hS i]), add, sw N b 1 hb, ex1 E hE]
  have t2 : sumTo (fun i => S i * N i) n = S a * q + sumI (fun e : EQ => N e.1 * (e.2.2 * S e.2.1)) E := by
    rw [cg (fun i => S i * N i) (fun i => S i * (if i = a then q else 0) + S i * partP E (fun _ => True) (fun _ => True) N i) n (fun i => by rw [← Int.mul_add, ← hN.eq i]), add, sw S a q ha, ex2 E hE]
  have t3 : sumTo (fun i => N i * S i) n = sumTo (fun i => S i * N i) n := cg _ _ n fun i => Int.mul_comm _ _
  rw [t1, t2, Int.mul_comm (S a)] at t3
  omega

end Go.DL
