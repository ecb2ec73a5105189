/- Contracts of functions of the program, at this seat: what each call returns, by its arguments as data; each states its own conditions. -/
import Derived.Test.YtjhjedfnjimflaaPK
namespace Go.DL
set_option maxRecDepth 100000
set_option maxHeartbeats 2000000
set_option linter.unusedSimpArgs false
set_option linter.unusedVariables false
open Go.RowKit Go.Proofs Go.Proofs.Ytjhjedfnjimflaa

/-! The closed items carry on what the open ones do not. -/
open Classical in
theorem closed_sum {E : List EQ} {O : Nat → Prop} {a b n : Nat} {q : Int} {N S : Nat → Int} (hN : SolD E O a q N) (hS : ∀ i, S i = (if i = b then 1 else 0) + partW E S i) (hE : ∀ e ∈ E, e.1 < n ∧ e.2.1 < n) (ha : a < n) (hb : b < n) : q * S a = N b + sumTo (fun k => if O k then 0 else N k * partW E S k) n := by
  have sw : ∀ (g : Nat → Int) (c : Nat) (v : Int), c < n → sumTo (fun i => g i * (if i = c then v else 0)) n = g c * v := by
    intro g c v
    have key : ∀ m, sumTo (fun i => g i * (if i = c then v else 0)) m = if c < m then g c * v else 0 := by
      intro m
      induction m with
      | zero => simp [sumTo]
      | succ m ih =>
        simp only [sumTo, ih]
        by_cases h : m = c
        · subst h; simp
        · rw [if_neg h, Int.mul_zero, Int.add_zero]
          by_cases h2 : c < m
          · rw [if_pos h2, if_pos (by omega)]
          · rw [if_neg h2, if_neg (by omega)]
    intro hc
    rw [key, if_pos hc]
  have add : ∀ (g h : Nat → Int) (m : Nat), sumTo (fun i => g i + h i) m = sumTo g m + sumTo h m := by
    intro g h m
    induction m with
    | zero => rfl
    | succ m ih => simp only [sumTo, ih]; omega
  have cg : ∀ (g h : Nat → Int) (m : Nat), (∀ i, g i = h i) → sumTo g m = sumTo h m := fun g h m e => by rw [funext e]
  have zr : ∀ m, sumTo (fun _ => 0) m = 0 := fun m => by induction m with | zero => rfl | succ m ih => simp only [sumTo, ih]; rfl
  have ex1 : ∀ (g : Nat → Int) (l : List EQ), (∀ e ∈ l, e.1 < n ∧ e.2.1 < n) → sumTo (fun i => g i * partW l S i) n = sumI (fun e : EQ => g e.1 * (e.2.2 * S e.2.1)) l := by
    intro g l hl
    induction l with
    | nil =>
      rw [cg _ (fun _ => 0) n (fun i => by simp [partW, sumI]), zr]; rfl
    | cons e l ih =>
      have h1 : ∀ i, g i * partW (e :: l) S i = g i * (if i = e.1 then e.2.2 * S e.2.1 else 0) + g i * partW l S i := fun i => by
        unfold partW
        rw [sumI_cons, Int.mul_add]
        congr 2
        by_cases h : e.1 = i
        · rw [if_pos h, if_pos h.symm]
        · rw [if_neg h, if_neg (fun e => h e.symm)]
      rw [cg _ _ n h1, add, sw g e.1 _ (hl e (by simp)).1, ih fun x hx => hl x (by simp [hx]), sumI_cons]
  have ex2 : ∀ l : List EQ, (∀ e ∈ l, e.1 < n ∧ e.2.1 < n) → sumTo (fun j => S j * partP l O (fun _ => True) N j) n = sumI (fun e : EQ => (if O e.1 then N e.1 else 0) * (e.2.2 * S e.2.1)) l := by
    intro l hl
    induction l with
    | nil =>
      rw [cg _ (fun _ => 0) n (fun i => by simp [partP, sumI]), zr]; rfl
    | cons e l ih =>
      have h1 : ∀ i, S i * partP (e :: l) O (fun _ => True) N i = S i * (if i = e.2.1 then (if O e.1 then e.2.2 * N e.1 else 0) else 0) + S i * partP l O (fun _ => True) N i := fun i => by
        unfold partP
        rw [sumI_cons, Int.mul_add]
        congr 2
        by_cases h : e.2.1 = i
        · by_cases ho : O e.1
          · rw [if_pos ⟨h, ho, trivial⟩, if_pos h.symm, if_pos ho]
          · rw [if_neg (fun x => ho x.2.1), if_pos h.symm, if_neg ho]
        · rw [if_neg (fun x => h x.1), if_neg (fun e => h e.symm)]
      rw [cg _ _ n h1, add, sw S e.2.1 _ (hl e (by simp)).2, ih fun x hx => hl x (by simp [hx]), sumI_cons]
      congr 1
      split
      · rw [Int.mul_comm, Int.mul_comm e.2.2, Int.mul_assoc]
      · simp
  have t1 : sumTo (fun i => N i * S i) n = N b * 1 + sumTo (fun i => N i * partW E S i) n := by
    rw [cg (fun i => N i * S i) (fun i => N i * (if i = b then 1 else 0) + N i * partW E S i) n (fun i => by rw [← Int.mul_add, ← hS i]), add, sw N b 1 hb]
  have t2 : sumTo (fun i => S i * N i) n = S a * q + sumI (fun e : EQ => (if O e.1 then N e.1 else 0) * (e.2.2 * S e.2.1)) E := by
    rw [cg (fun i => S i * N i) (fun i => S i * (if i = a then q else 0) + S i * partP E O (fun _ => True) N i) n (fun i => by rw [← Int.mul_add, ← hN.eq i]), add, sw S a q ha, ex2 E hE]
  have t3 : sumTo (fun i => N i * S i) n = sumTo (fun i => S i * N i) n := cg _ _ n fun i => Int.mul_comm _ _
  have t4 : sumTo (fun i => N i * partW E S i) n = sumTo (fun i => (if O i then N i else 0) * partW E S i) n + sumTo (fun k => if O k then 0 else N k * partW E S k) n := by
    rw [← add]
    exact cg _ _ n fun i => by split <;> simp
  rw [ex1 (fun i => if O i then N i else 0) E hE] at t4
  rw [t1, t2, t4, Int.mul_comm (S a)] at t3
  omega
/-- Sums over the items and over the needs. -/
noncomputable def qsum (F : ByteArray → Int) (s : ByteArray) (l : List NeedV) : Int := sumI (fun x : NeedV => ifP (x.code = s) 0 (F x.code * x.quantity)) l
theorem qsum_need {cat : List ItemV} {P : ItemV → Prop} {N : Nat → Int} {F : ByteArray → Int} {s : ByteArray} (hN : ∀ j, 0 ≤ N j) : ∀ k, k ≤ cat.length → qsum F s (needL cat P N k) = sumTo (fun i => match cat[i]? with
    | some y => ifP (P y ∧ y.code ≠ s) (F y.code * N i) 0
    | none => 0) k
  | 0, _ => rfl
  | k + 1, hk => by
    have ih := qsum_need (cat := cat) (P := P) (F := F) (s := s) hN k (by omega)
    have hy : cat[k]? = some cat[k] := by simp
    have hap : ∀ (l : List NeedV) (x : NeedV), qsum F s (l ++ [x]) = qsum F s l + ifP (x.code = s) 0 (F x.code * x.quantity) := fun l x => by
      unfold qsum; rw [sumI_append]
      congr 1
      simp [sumI]
    simp only [sumTo]
    rw [← ih]
    simp only [hy]
    by_cases hp : 0 < N k ∧ P cat[k]
    · rw [need_y hy hp, hap]
      by_cases h1 : (cat[k]).code = s
      · rw [ifP_t h1, ifP_f (fun h => h.2 h1)]
      · rw [ifP_f h1, ifP_t ⟨hp.2, h1⟩]
    · rw [need_n hy hp]
      by_cases h1 : P cat[k] ∧ (cat[k]).code ≠ s
      · have : N k = 0 := by
          have := hN k
          by_cases h2 : 0 < N k
          · exact absurd ⟨h2, h1.1⟩ hp
          · omega
        rw [ifP_t h1, this]; simp
      · rw [ifP_f h1]; simp
theorem idx_self {cat : List ItemV} (hc : isCatalogP cat) {i : Nat} {y : ItemV} (hy : cat[i]? = some y) : idxOf cat y.code = i := by
  have h0 : 0 ≤ idxOf cat y.code := by
    unfold idxOf
    rcases findP_cases (fun z : ItemV => z.code = y.code) cat with ⟨_, h2⟩ | ⟨j, x, h1, _⟩
    · exact absurd rfl (h2 y (get_mem hy))
    · rw [h1]; omega
  have h1 := (idx_code hc hy h0).1 rfl
  have h2 := (idx_nat h0).1
  omega
theorem sumTo_cong {f g : Nat → Int} : ∀ {n : Nat}, (∀ k, k < n → f k = g k) → sumTo f n = sumTo g n
  | 0, _ => rfl
  | n + 1, h => by simp only [sumTo, sumTo_cong (n := n) (fun k hk => h k (by omega)), h n (by omega)]
theorem partP_all {E : List EQ} {O Pr : Nat → Prop} {N : Nat → Int} (h : ∀ e ∈ E, O e.1) (j : Nat) : partP E O Pr N j = partP E (fun _ => True) Pr N j := sumI_congr fun e he => by
  by_cases h1 : e.2.1 = j ∧ Pr e.1
  · rw [if_pos ⟨h1.1, h e he, h1.2⟩, if_pos ⟨h1.1, trivial, h1.2⟩]
  · rw [if_neg (fun x => h1 ⟨x.1, x.2.2⟩), if_neg (fun x => h1 ⟨x.1, x.2.2⟩)]
theorem sol_all {cat : List ItemV} {lines : List LineV} {s : ByteArray} {day : Int} {c : List PickV} (hb : isBillsP cat lines) (part : ByteArray) (i : Nat) : qtyS cat lines part day c i = (if i = (idxOf cat part).toNat then 1 else 0) + partW (edQ cat (activeN day c lines)) (qtyS cat lines part day c) i := by
  have hA := act_ok hb day c
  have hsol : SolW (edQ cat (activeN day c lines)) (idxOf cat part).toNat (levOf cat lines) (qtyS cat lines part day c) := hA.sol _
  have hself := sol_self hsol hA.strict
  by_cases e : i = (idxOf cat part).toNat
  · rw [if_pos e, e, hself, hsol.at_b]; rfl
  · rw [if_neg e, hsol.eq i e]; omega
/-- An explosion in full is what an item takes, times the quantity. -/
theorem exp_qty {cat : List ItemV} {lines : List LineV} {s : ByteArray} {q day : Int} {c : List PickV} (h : expP cat lines s q day c (fun _ => True)) {i : Nat} {y : ItemV} (hy : cat[i]? = some y) : expN cat lines s q day c (fun _ => True) i = q * qtyS cat lines y.code day c (idxOf cat s).toNat := by
  have hA := act_ok h.1 day c
  have hP := pie_okL hA (fun _ => True) (idxOf cat s).toNat h.2.2.1.1
  have hi := idx_self h.1.1 hy
  have hN : SolD (edQ cat (activeN day c lines)) (fun _ => True) (idxOf cat s).toNat q (expN cat lines s q day c (fun _ => True)) := by
    refine ⟨hP.sol.nn, fun j => ?_⟩
    rw [← partP_all (O := openP cat (fun _ => True) (idxOf cat s).toNat) (fun e he => ?_)]
    · exact hP.sol.eq j
    · obtain ⟨h1, _⟩ := hP.inE e he
      exact .inr ⟨cat[e.1], by simp, trivial⟩
  have hS := sol_all (s := s) (day := day) (c := c) h.1 y.code
  rw [hi] at hS
  exact down_up hN hS hP.inE (idx_nat h.2.1).2 (get_lt hy)
theorem phan_sum {cat : List ItemV} {lines : List LineV} {s : ByteArray} {q day : Int} {c : List PickV} (h : expP cat lines s q day c (fun _ => True)) {i : Nat} {y : ItemV} (hy : cat[i]? = some y) :
    expN cat lines s q day c (fun _ => True) i = expN cat lines s q day c (fun x => x.kind = 2) i + qsum (fun t => qtyS cat lines y.code day c (idxOf cat t).toNat) y.code (expL cat lines s q day c (fun x => x.kind = 2) (fun x => x.kind ≠ 2)) := by
  have hA := act_ok h.1 day c
  have hP := pie_okL hA (fun x => x.kind = 2) (idxOf cat s).toNat h.2.2.1.1
  have hi := idx_self h.1.1 hy
  have hal := (idx_nat h.2.1).2
  have hS := sol_all (s := s) (day := day) (c := c) h.1 y.code
  have hSn : qtyS cat lines y.code day c (idxOf cat y.code).toNat = 1 := (hA.sol (idxOf cat y.code).toNat).at_b
  rw [hi] at hS hSn
  have h1 := closed_sum hP.sol hS hP.inE hal (get_lt hy)
  rw [exp_qty h hy, h1]
  show expN cat lines s q day c (fun x => x.kind = 2) i + _ = _
  congr 1
  unfold expL
  have hnn : ∀ j, 0 ≤ (if j = (idxOf cat s).toNat then 0 else expN cat lines s q day c (fun x => x.kind = 2) j) := fun j => by
    split
    · omega
    · exact hP.sol.nn j
  rw [qsum_need hnn _ (Nat.le_refl _)]
  refine sumTo_cong fun k hk => ?_
  have hz : cat[k]? = some cat[k] := by simp
  rw [hz]
  dsimp only
  have hik := idx_self h.1.1 hz
  generalize cat[k] = z at hz hik ⊢
  rw [hik]
  have hk2 : ((k : Int)).toNat = k := by omega
  rw [hk2]
  by_cases ha : k = (idxOf cat s).toNat
  · have hop : openP cat (fun x => x.kind = 2) (idxOf cat s).toNat k := Or.inl ha
    rw [if_pos hop, if_pos ha, Int.mul_zero]
    by_cases h5 : z.kind ≠ 2 ∧ z.code ≠ y.code
    · rw [ifP_t h5]
    · rw [ifP_f h5]
  rw [if_neg ha]
  by_cases h2 : z.kind = 2
  · have hop : openP cat (fun x => x.kind = 2) (idxOf cat s).toNat k := Or.inr ⟨z, hz, h2⟩
    rw [if_pos hop, ifP_f (fun x => x.1 h2)]
  have hop : ¬ openP cat (fun x => x.kind = 2) (idxOf cat s).toNat k := fun x => x.elim ha fun ⟨w, hw, hw2⟩ => h2 (by rw [hz] at hw; cases hw; exact hw2)
  rw [if_neg hop]
  have h3 := hS k
  by_cases h4 : k = i
  · rw [h4, hy] at hz; cases hz
    rw [ifP_f (fun x => x.2 rfl)]
    rw [h4] at h3
    simp only [Int.toNat_natCast, if_true] at h3 hSn
    rw [h4, show partW (edQ cat (activeN day c lines)) (qtyS cat lines y.code day c) i = 0 by omega, Int.mul_zero]
  · have h5 : z.code ≠ y.code := fun e => h4 (cat_inj h.1.1 hz hy e)
    rw [ifP_t ⟨h2, h5⟩, Int.mul_comm]
    simp only [Int.toNat_natCast, if_neg h4] at h3
    rw [h3]
    show _ = (0 + _) * expN cat lines s q day c (fun x => x.kind = 2) k
    rw [Int.zero_add]; rfl

end Go.DL
