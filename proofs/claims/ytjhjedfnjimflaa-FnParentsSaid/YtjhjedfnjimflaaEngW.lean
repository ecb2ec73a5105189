/- Part of an evaluator of Go code on plain data, proved sound for the model: lemmas alone, for every program; each states its own conditions. -/
import Derived.Test.YtjhjedfnjimflaaEngV
namespace Go.DL
open Go.RowKit

/-! ### Truth of a proposition, as a Bool -/
@[irreducible] noncomputable def tr (p : Prop) : Bool := @decide p (Classical.propDecidable p)
theorem tr_iff {p : Prop} : tr p = true ↔ p := by unfold tr; exact @decide_eq_true_iff p (Classical.propDecidable p)
theorem tr_t {p : Prop} (h : p) : tr p = true := tr_iff.2 h
theorem tr_f {p : Prop} (h : ¬p) : tr p = false := by
  cases e : tr p with
  | false => rfl
  | true => exact absurd (tr_iff.1 e) h
theorem tr_fiff {p : Prop} : tr p = false ↔ ¬p := ⟨fun e h => (by rw [tr_t h] at e; cases e), tr_f⟩
theorem tr_congr {p q : Prop} (h : p ↔ q) : tr p = tr q := by rw [propext h]
theorem tr_bool {b : Bool} {p : Prop} (h : b = true ↔ p) : b = tr p := by
  cases b with
  | true => exact (tr_t (h.1 rfl)).symm
  | false => exact (tr_f (fun hp => by cases h.2 hp)).symm
theorem bT {p : Prop} (h : p) : D.sc (.bool true) = bD (tr p) := by rw [tr_t h]
theorem bF {p : Prop} (h : ¬p) : D.sc (.bool false) = bD (tr p) := by rw [tr_f h]
theorem bB {b : Bool} {p : Prop} (h : b = true ↔ p) : D.sc (.bool b) = bD (tr p) := by rw [tr_bool h]
theorem bP {p q : Prop} (h : p ↔ q) : D.sc (.bool (tr p)) = bD (tr q) := by rw [tr_congr h]

theorem brTr {p : Prop} {A B : Prop} (h1 : p → A) (h2 : ¬p → B) : brM (tr p) A B := brM_intro (fun h => h1 (tr_iff.1 h)) (fun h => h2 (tr_fiff.1 h))
theorem brNTr {p : Prop} {A B : Prop} (h1 : p → B) (h2 : ¬p → A) : brM (!tr p) A B := brM_intro (fun h => h2 (tr_fiff.1 (by simpa using h))) (fun h => h1 (tr_iff.1 (by simpa using h)))
theorem bEq_eq (a b : Bool) : bEq a b = (a == b) := by unfold bEq; rfl
theorem brBEq {a b : Bool} {A B : Prop} (h1 : a = b → A) (h2 : a ≠ b → B) : brM (bEq a b) A B := brM_intro (fun h => h1 (by simpa [bEq_eq] using h)) (fun h => h2 (by simpa [bEq_eq] using h))
theorem brNBEq {a b : Bool} {A B : Prop} (h1 : a = b → B) (h2 : a ≠ b → A) : brM (!bEq a b) A B := brM_intro (fun h => h2 (by simpa [bEq_eq] using h)) (fun h => h1 (by simpa [bEq_eq] using h))
theorem strLt_eq (a b : ByteArray) : strLt a b = Op.bytesLess a.toList b.toList := by unfold strLt; rfl
theorem brStrLt {a b : ByteArray} {A B : Prop} (h1 : Op.bytesLess a.toList b.toList = true → A) (h2 : Op.bytesLess a.toList b.toList = false → B) : brM (strLt a b) A B :=
  brM_intro (fun h => h1 (by rwa [strLt_eq] at h)) (fun h => h2 (by rwa [strLt_eq] at h))
theorem brNStrLt {a b : ByteArray} {A B : Prop} (h1 : Op.bytesLess a.toList b.toList = true → B) (h2 : Op.bytesLess a.toList b.toList = false → A) : brM (!strLt a b) A B :=
  brM_intro (fun h => h2 (by rw [strLt_eq] at h; simpa using h)) (fun h => h1 (by rw [strLt_eq] at h; simpa using h))
theorem brB {b : Bool} {A B : Prop} (h1 : b = true → A) (h2 : b = false → B) : brM b A B := brM_intro h1 h2
theorem brNB {b : Bool} {A B : Prop} (h1 : b = true → B) (h2 : b = false → A) : brM (!b) A B := brM_intro (fun h => h2 (by simpa using h)) (fun h => h1 (by simpa using h))

/-! ### Truth values of tests -/
theorem ltB_iff {a b : Int} : ltB a b = true ↔ a < b := by simp [ltB_eq]
theorem leB_iff {a b : Int} : leB a b = true ↔ a ≤ b := by simp [leB_eq]
theorem eqB_iff {a b : Int} : eqB a b = true ↔ a = b := by simp [eqB_eq]
theorem strEq_iff {a b : ByteArray} : strEq a b = true ↔ a = b := by simp [strEq_eq]

abbrev okI (n : Int) : Prop := -9223372036854775808 ≤ n ∧ n ≤ 9223372036854775807
abbrev okS (s : ByteArray) : Prop := s.size ≤ 9223372036854775807

theorem sl_dec {α : Type} {f : α → D} {ok : α → Prop} {e : TY} (h : ∀ x, HasTy e x → ∃ v, x = f v ∧ ok v) {x : D} (hx : HasTy (.sl e) x) :
    ∃ l : List α, x = .sl (l.map f) ∧ l.length ≤ 9223372036854775807 ∧ ∀ v ∈ l, ok v := by
  cases hx with
  | sl _ xs hl hall =>
    have : ∃ l : List α, xs = l.map f ∧ ∀ v ∈ l, ok v := by
      clear hl
      induction xs with
      | nil => exact ⟨[], rfl, by simp⟩
      | cons x xs ih =>
        obtain ⟨v, hv, hok⟩ := h x (hall x (by simp))
        obtain ⟨l, hl, hoks⟩ := ih (fun y hy => hall y (by simp [hy]))
        exact ⟨v :: l, by simp [hv, hl], fun w hw => (by
          rcases List.mem_cons.1 hw with h1 | h1
          · rw [h1]; exact hok
          · exact hoks w h1)⟩
    obtain ⟨l, rfl, hoks⟩ := this
    exact ⟨l, rfl, by simpa using hl, hoks⟩

theorem int_dec {x : D} (h : HasTy .int x) : ∃ n : Int, x = iD n ∧ okI n := by cases h with | int n lo hi => exact ⟨n, rfl, lo, hi⟩
theorem str_dec {x : D} (h : HasTy .str x) : ∃ s : ByteArray, x = sD s ∧ okS s := by cases h with | str s hs => exact ⟨s, rfl, hs⟩

theorem HasTys_nil {ds : List D} (h : HasTys [] ds) : ds = [] := by cases h; rfl
theorem HasTys_cons {f : TY} {fs : List TY} {ds : List D} (h : HasTys (f :: fs) ds) : ∃ d r, ds = d :: r ∧ HasTy f d ∧ HasTys fs r := by
  cases h with | cons _ d _ r h t => exact ⟨d, r, rfl, h, t⟩
theorem HasTy_st {fs : List TY} {x : D} (h : HasTy (.st fs) x) : ∃ ds, x = .agg ds ∧ HasTys fs ds := by cases h with | st _ ds h => exact ⟨ds, rfl, h⟩

/-- What sz leaves: -1 if there is not enough. -/
def szR (left : Int) (w : Nat) : Int := if left < w then -1 else left - w
theorem szR_lt {left : Int} {w : Nat} (h : left < w) : szR left w = -1 := by simp [szR, h]
theorem szR_ge {left : Int} {w : Nat} (h : ¬ left < w) : szR left w = left - w := by simp [szR, h]
theorem szR_neg {left : Int} {w : Nat} : szR left w < 0 ↔ left < w := by unfold szR; split <;> omega

theorem CallK_sz {P : Program} {f : FuncId} {as : List A1} {K : Res → Prop} {left : Int} {w : Nat} (h : Contract P f as (.one (.d (iD (szR left w))))) (h1 : left < w → K (.one (.d (iD (-1))))) (h2 : w ≤ left → K (.one (.d (iD (left - w))))) : CallK P f as K := by
  refine CallK_intro h ?_
  rcases Int.lt_or_le left w with hc | hc
  · rw [szR_lt hc]; exact h1 hc
  · rw [szR_ge (by omega)]; exact h2 hc
theorem CallK_tr {P : Program} {f : FuncId} {as : List A1} {K : Res → Prop} {p : Prop} (h : Contract P f as (.one (.d (bD (tr p))))) (h1 : p → K (.one (.d (bD true)))) (h2 : ¬p → K (.one (.d (bD false)))) : CallK P f as K := by
  refine CallK_intro h ?_
  by_cases hc : p
  · rw [tr_t hc]; exact h1 hc
  · rw [tr_f hc]; exact h2 hc

def sumW {α : Type} (f : α → Nat) (l : List α) : Nat := (l.map f).sum
theorem sumW_nil {α : Type} (f : α → Nat) : sumW f [] = 0 := rfl
theorem sumW_cons {α : Type} (f : α → Nat) (x : α) (l : List α) : sumW f (x :: l) = f x + sumW f l := by simp [sumW]
theorem sumW_take {α : Type} {f : α → Nat} {l : List α} {i : Nat} {x : α} (h : l[i]? = some x) : sumW f (l.take (i + 1)) = sumW f (l.take i) + f x := by
  have hi := (List.getElem?_eq_some_iff.1 h)
  obtain ⟨hl, he⟩ := hi
  rw [List.take_succ_eq_append_getElem hl, he]
  simp [sumW]
theorem sumW_take_le {α : Type} (f : α → Nat) (l : List α) (i : Nat) : sumW f (l.take i) ≤ sumW f l := by
  induction l generalizing i with
  | nil => simp
  | cons x l ih => cases i with
    | zero => simp [sumW]
    | succ i => simp only [List.take_succ_cons, sumW_cons]; have := ih i; omega
theorem sumW_mem {α : Type} {f : α → Nat} {l : List α} {x : α} (h : x ∈ l) : f x ≤ sumW f l := by
  induction l with
  | nil => cases h
  | cons y l ih =>
    rw [sumW_cons]
    rcases List.mem_cons.1 h with rfl | h
    · omega
    · have := ih h; omega

theorem IxK_mapI {α : Type} {f : α → D} {xs : List α} {j : Int} {K : D → Prop} (h0 : 0 ≤ j) (h : j < xs.length) (hK : ∀ (i : Nat) (x : α), j = i → xs[i]? = some x → K (f x)) : IxK (xs.map f) j K :=
  IxK_mapLt (f := f) j.toNat (by omega) (by omega) (fun x hx => hK j.toNat x (by omega) hx)
theorem ba_lt {s : ByteArray} {j : Nat} {b : UInt8} (h : s[j]? = some b) : j < s.size := by
  rcases Nat.lt_or_ge j s.size with h1 | h1
  · exact h1
  · have : s[j]? = none := getElem?_neg s j (by omega)
    rw [this] at h; cases h
theorem take_snoc {α : Type} {l : List α} {i : Nat} {x : α} (h : l[i]? = some x) : l.take (i + 1) = l.take i ++ [x] := by
  obtain ⟨hl, he⟩ := List.getElem?_eq_some_iff.1 h
  rw [List.take_succ_eq_append_getElem hl, he]
theorem get_mem {α : Type} {l : List α} {i : Nat} {x : α} (h : l[i]? = some x) : x ∈ l := List.mem_of_getElem? h
theorem get_lt {α : Type} {l : List α} {i : Nat} {x : α} (h : l[i]? = some x) : i < l.length := (List.getElem?_eq_some_iff.1 h).1

/-- A list being filled: the first i are done. -/
theorem fill_start {α : Type} (z : α) (n : Nat) (l : List α) : List.replicate n z = (l.take 0) ++ List.replicate (n - 0) z := by simp
theorem fill_step {α β : Type} {f : α → β} {z : β} {l : List α} {i : Nat} {x : α} (h : l[i]? = some x) :
    ((l.take i).map f ++ List.replicate (l.length - i) z).set i (f x) = (l.take (i + 1)).map f ++ List.replicate (l.length - (i + 1)) z := by
  obtain ⟨hl, he⟩ := List.getElem?_eq_some_iff.1 h
  rw [take_snoc h, List.set_append_right _ _ (by simp; omega)]
  have e : i - (List.map f (List.take i l)).length = 0 := by simp; omega
  rw [e]
  have e2 : l.length - i = (l.length - (i + 1)) + 1 := by omega
  rw [e2, List.replicate_succ]
  simp
theorem fill_len {α β : Type} (f : α → β) (z : β) {l : List α} {i : Nat} (h : i ≤ l.length) : ((l.take i).map f ++ List.replicate (l.length - i) z).length = l.length := by
  simp; omega
theorem fill_end {α β : Type} (f : α → β) (z : β) (l : List α) : (l.take l.length).map f ++ List.replicate (l.length - l.length) z = l.map f := by simp

/-! ### Loops that look at all elements -/
def AllB {α : Type} (l : List α) (good : Nat → α → Prop) (i : Nat) : Prop := ∀ j, j < i → ∀ x, l[j]? = some x → good j x
def allP {α : Type} (l : List α) (good : Nat → α → Prop) : Prop := ∀ j x, l[j]? = some x → good j x
theorem AllB_zero {α : Type} {l : List α} {good : Nat → α → Prop} : AllB l good 0 := fun j h => by omega
theorem AllB_succ {α : Type} {l : List α} {good : Nat → α → Prop} {i : Nat} {x : α} (hx : l[i]? = some x) (h : AllB l good i) (hg : good i x) : AllB l good (i + 1) := fun j hj y hy => by
  by_cases e : j = i
  · subst e; rw [hx] at hy; cases hy; exact hg
  · exact h j (by omega) y hy
theorem allP_of {α : Type} {l : List α} {good : Nat → α → Prop} {i : Nat} (h : AllB l good i) (hi : l.length ≤ i) : allP l good := fun j x hx => h j (by have := get_lt hx; omega) x hx
theorem allP_not {α : Type} {l : List α} {good : Nat → α → Prop} {i : Nat} {x : α} (hx : l[i]? = some x) (h : ¬ good i x) : ¬ allP l good := fun hp => h (hp i x hx)

noncomputable def ifP {α : Type} (p : Prop) (a b : α) : α := @ite α p (Classical.propDecidable p) a b
theorem ifP_t {α : Type} {p : Prop} {a b : α} (h : p) : ifP p a b = a := by unfold ifP; exact @if_pos p (Classical.propDecidable p) h α a b
theorem ifP_f {α : Type} {p : Prop} {a b : α} (h : ¬p) : ifP p a b = b := by unfold ifP; exact @if_neg p (Classical.propDecidable p) h α a b
theorem iT {p : Prop} {n m k : Int} (h : p) (e : n = m) : D.sc (.int .i64 n) = iD (ifP p m k) := by rw [ifP_t h, e]
theorem iF {p : Prop} {n m k : Int} (h : ¬p) (e : n = k) : D.sc (.int .i64 n) = iD (ifP p m k) := by rw [ifP_f h, e]
theorem iE {n m : Int} (e : n = m) : D.sc (.int .i64 n) = iD m := by rw [e]

/-- The first index whose element is as asked, -1 if there is none. -/
noncomputable def findFrom {α : Type} (p : α → Prop) : List α → Nat → Int
  | [], _ => -1
  | x :: r, i => ifP (p x) (i : Int) (findFrom p r (i + 1))
noncomputable def findP {α : Type} (p : α → Prop) (l : List α) : Int := findFrom p l 0
theorem findFrom_at {α : Type} {p : α → Prop} : ∀ {l : List α} {k i : Nat} {x : α}, l[i]? = some x → p x → AllB l (fun _ y => ¬ p y) i → findFrom p l k = k + i
  | [], _, _, _, h, _, _ => by simp at h
  | y :: r, k, 0, x, h, hp, _ => by
    simp at h; subst h
    simp [findFrom, ifP_t hp]
  | y :: r, k, i + 1, x, h, hp, ha => by
    have hy : ¬ p y := ha 0 (by omega) y rfl
    rw [findFrom, ifP_f hy, findFrom_at (l := r) (i := i) (by simpa using h) hp (fun j hj z hz => ha (j + 1) (by omega) z (by simpa using hz))]
    omega
theorem findP_at {α : Type} {p : α → Prop} {l : List α} {i : Nat} {x : α} (h : l[i]? = some x) (hp : p x) (ha : AllB l (fun _ y => ¬ p y) i) : findP p l = i := by
  rw [findP, findFrom_at h hp ha]; omega
theorem findFrom_none {α : Type} {p : α → Prop} : ∀ {l : List α} {k : Nat}, (∀ x ∈ l, ¬ p x) → findFrom p l k = -1
  | [], _, _ => rfl
  | y :: r, k, h => by
    rw [findFrom, ifP_f (h y (by simp))]
    exact findFrom_none (fun x hx => h x (by simp [hx]))
theorem findP_none {α : Type} {p : α → Prop} {l : List α} {i : Nat} (hi : l.length ≤ i) (ha : AllB l (fun _ y => ¬ p y) i) : findP p l = -1 :=
  findFrom_none (fun x hx => by obtain ⟨j, hj⟩ := List.getElem?_of_mem hx; exact ha j (by have := get_lt hj; omega) x hj)
theorem findP_cases {α : Type} (p : α → Prop) (l : List α) : (findP p l = -1 ∧ ∀ x ∈ l, ¬ p x) ∨ ∃ i x, findP p l = (i : Nat) ∧ l[i]? = some x ∧ p x ∧ AllB l (fun _ y => ¬ p y) i := by
  have key : ∀ (l : List α) (k : Nat), (findFrom p l k = -1 ∧ ∀ x ∈ l, ¬ p x) ∨ ∃ i x, findFrom p l k = ((k + i : Nat) : Int) ∧ l[i]? = some x ∧ p x ∧ AllB l (fun _ y => ¬ p y) i := by
    intro l
    induction l with
    | nil => intro k; exact .inl ⟨rfl, by simp⟩
    | cons y r ih =>
      intro k
      by_cases hy : p y
      · exact .inr ⟨0, y, by rw [findFrom, ifP_t hy]; rfl, rfl, hy, AllB_zero⟩
      · rw [findFrom, ifP_f hy]
        rcases ih (k + 1) with ⟨h1, h2⟩ | ⟨i, x, h1, h2, h3, h4⟩
        · refine .inl ⟨h1, fun x hx => ?_⟩
          rcases List.mem_cons.1 hx with e | e
          · rw [e]; exact hy
          · exact h2 x e
        · refine .inr ⟨i + 1, x, by rw [h1]; congr 1; omega, by simpa using h2, h3, fun j hj z hz => ?_⟩
          cases j with
          | zero => simp at hz; subst hz; exact hy
          | succ j => exact h4 j (by omega) z (by simpa using hz)
  rcases key l 0 with h | ⟨i, x, h1, h2⟩
  · exact .inl h
  · exact .inr ⟨i, x, by rw [findP, h1]; simp, h2⟩

/-- Sums of integers. -/
def sumI {α : Type} (f : α → Int) (l : List α) : Int := (l.map f).sum
theorem sumI_nil {α : Type} (f : α → Int) : sumI f [] = 0 := rfl
theorem sumI_cons {α : Type} (f : α → Int) (x : α) (l : List α) : sumI f (x :: l) = f x + sumI f l := by simp [sumI]
theorem sumI_append {α : Type} (f : α → Int) (l m : List α) : sumI f (l ++ m) = sumI f l + sumI f m := by
  induction l with
  | nil => simp [sumI]
  | cons x l ih => simp only [List.cons_append, sumI_cons, ih]; omega
theorem sumI_take {α : Type} {f : α → Int} {l : List α} {i : Nat} {x : α} (h : l[i]? = some x) : sumI f (l.take (i + 1)) = sumI f (l.take i) + f x := by
  rw [take_snoc h, sumI_append, sumI_cons, sumI_nil]; omega
theorem sumI_bound {α : Type} {f : α → Int} {b : Int} : ∀ {l : List α}, (∀ x ∈ l, 0 ≤ f x ∧ f x ≤ b) → 0 ≤ sumI f l ∧ sumI f l ≤ l.length * b
  | [], _ => by simp [sumI]
  | x :: l, h => by
    have h1 := h x (by simp)
    have h2 := sumI_bound (f := f) (b := b) (l := l) (fun y hy => h y (by simp [hy]))
    rw [sumI_cons]
    have e : ((x :: l).length : Int) * b = l.length * b + b := by
      rw [List.length_cons, Int.natCast_succ, Int.add_mul, Int.one_mul]
    rw [e]
    omega
theorem sumI_bound_take {α : Type} {f : α → Int} {b : Int} {l : List α} (h : ∀ x ∈ l, 0 ≤ f x ∧ f x ≤ b) (i : Nat) : 0 ≤ sumI f (l.take i) ∧ sumI f (l.take i) ≤ (l.take i).length * b :=
  sumI_bound (fun x hx => h x (List.mem_of_mem_take hx))
theorem mul_bound {a b A B : Int} (h0 : 0 ≤ a) (h1 : a ≤ A) (g0 : 0 ≤ b) (g1 : b ≤ B) : 0 ≤ a * b ∧ a * b ≤ A * B :=
  ⟨Int.mul_nonneg h0 g0, Int.mul_le_mul h1 g1 g0 (Int.le_trans h0 h1)⟩
theorem wd {α : Type} {f : α → D} {l : List α} {w : Nat} (h : ∀ a, (f a).width = w) : ∀ y ∈ l.map f, y.width = w := fun y hy => by
  obtain ⟨a, _, rfl⟩ := List.mem_map.1 hy
  exact h a
theorem get_take {α : Type} {l : List α} {i j : Nat} {x : α} (h : (l.take i)[j]? = some x) : l[j]? = some x ∧ j < i := by
  rw [List.getElem?_take] at h
  split at h
  · exact ⟨h, by assumption⟩
  · cases h
end Go.DL
