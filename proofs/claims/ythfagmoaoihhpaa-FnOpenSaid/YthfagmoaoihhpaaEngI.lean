/- Parts of an evaluator of Go code on plain data, proved sound for the model: lemmas alone, for every program; each states its own conditions. -/
import Derived.Test.YthfagmoaoihhpaaEngE
import Derived.Laws.BytesString
namespace Go.DL
open Go.RowKit

/-! ### Cells of a list of elements -/
theorem mul_succ_le {j n sz : Nat} (h : j < n) : j * sz + sz ≤ n * sz := by
  have := Nat.mul_le_mul_right sz (show j + 1 ≤ n from h)
  rw [Nat.add_mul, Nat.one_mul] at this
  exact this

theorem elem_bound {i j sz o : Nat} (hij : j ≠ i) (ho1 : j * sz ≤ o) (ho2 : o < j * sz + sz) : o < i * sz ∨ i * sz + sz ≤ o := by
  rcases Nat.lt_or_ge j i with h | h
  · left
    have := mul_succ_le (sz := sz) h
    omega
  · right
    have := mul_succ_le (sz := sz) (show i < j by omega)
    omega

theorem splice_get {cs us : List Value} {o j : Nat} (h : o + us.length ≤ cs.length) :
    (cs.take o ++ us ++ cs.drop (o + us.length))[j]? = if j < o then cs[j]? else if j < o + us.length then us[j - o]? else cs[j]? := by
  have h1 : (cs.take o).length = o := by rw [List.length_take]; omega
  rw [List.append_assoc]
  simp only [List.getElem?_append, h1, List.getElem?_take, List.getElem?_drop]
  by_cases c1 : j < o
  · simp [c1]
  · simp only [c1, if_false]
    by_cases c2 : j < o + us.length
    · have : j - o < us.length := by omega
      simp [c2, this]
    · have h3 : ¬ (j - o < us.length) := by omega
      simp only [c2, h3, if_false]
      congr 1
      omega

theorem splice_len {cs us : List Value} {o : Nat} (h : o + us.length ≤ cs.length) : (cs.take o ++ us ++ cs.drop (o + us.length)).length = cs.length := by
  simp only [List.length_append, List.length_take, List.length_drop]
  omega

theorem elemAt_get {M : Mem} {x : D} {cs ds : List Value} {o : Nat} (h : ElemAt M x cs o) (he : ∀ i, i < x.width → ds[o + i]? = cs[o + i]?) : ElemAt M x ds o := by
  refine ⟨fun hx => ?_, fun fs hfs i f hi => ?_⟩
  · obtain ⟨v, h1, h2⟩ := h.1 hx
    refine ⟨v, ?_, h2⟩
    have := he 0 (by rw [width_one hx]; exact Nat.one_pos)
    simp only [Nat.add_zero] at this
    rw [this]; exact h1
  · obtain ⟨h0, v, h1, h2⟩ := h.2 fs hfs i f hi
    refine ⟨h0, v, ?_, h2⟩
    rw [he i (by subst hfs; exact (List.getElem?_eq_some_iff.1 hi).1)]
    exact h1

theorem cellsOK_set {M : Mem} {sz : Nat} {xs : List D} {cs : List Value} (h : CellsOK M sz xs cs) {i : Nat} (hi : i < xs.length) {y : D} {us : List Value} (hy : y.width = sz) (hl : us.length = sz)
    (he : ElemAt M y us 0) : CellsOK M sz (xs.set i y) (cs.take (i * sz) ++ us ++ cs.drop (i * sz + us.length)) := by
  obtain ⟨h1, h2⟩ := h
  have hb : i * sz + us.length ≤ cs.length := by rw [h1, hl]; exact mul_succ_le hi
  refine ⟨by rw [splice_len hb, h1, List.length_set], fun j x hx => ?_⟩
  rw [List.getElem?_set] at hx
  by_cases hij : i = j
  · subst hij
    rw [if_pos rfl] at hx
    simp only [hi, if_true, Option.some.injEq] at hx
    subst hx
    refine ⟨hy, fun hc => ?_, fun fs hfs f z hz => ?_⟩
    · obtain ⟨v, a, b⟩ := he.1 hc
      refine ⟨v, ?_, b⟩
      have := width_one hc
      rw [splice_get hb, if_neg (by omega), if_pos (by omega), Nat.sub_self]
      exact a
    · obtain ⟨c, v, a, b⟩ := he.2 fs hfs f z hz
      refine ⟨c, v, ?_, b⟩
      have hf := (List.getElem?_eq_some_iff.1 hz).1
      have hw : fs.length = sz := by subst hfs; exact hy
      rw [splice_get hb, if_neg (by omega), if_pos (by omega), Nat.add_sub_cancel_left]
      simpa using a
  · rw [if_neg hij] at hx
    obtain ⟨hw, hel⟩ := h2 j x hx
    refine ⟨hw, elemAt_get hel fun t ht => ?_⟩
    have hj := (List.getElem?_eq_some_iff.1 hx).1
    rcases elem_bound (sz := sz) (o := j * sz + t) (Ne.symm hij) (by omega) (by omega) with c | c
    · rw [splice_get hb, if_pos c]
    · rw [splice_get hb, if_neg (by omega), if_neg (by omega)]

theorem cellsOK_setF {M : Mem} {sz : Nat} {xs : List D} {cs : List Value} (h : CellsOK M sz xs cs) {i f : Nat} {fs : List D} (hi : xs[i]? = some (.agg fs)) (hf : f < fs.length) {z : D} {u : Value} (hz : z.isCell = true)
    (hu : Rep M z u) : CellsOK M sz (xs.set i (.agg (fs.set f z))) (cs.take (i * sz + f) ++ [u] ++ cs.drop (i * sz + f + [u].length)) := by
  obtain ⟨h1, h2⟩ := h
  obtain ⟨hw0, _, hag⟩ := h2 i _ hi
  have hsz : fs.length = sz := hw0
  have hi' := (List.getElem?_eq_some_iff.1 hi).1
  have hms := mul_succ_le (sz := sz) hi'
  have hb : i * sz + f + [u].length ≤ cs.length := by simp; omega
  refine ⟨by rw [splice_len hb, h1, List.length_set], fun j x hx => ?_⟩
  rw [List.getElem?_set] at hx
  by_cases hij : i = j
  · subst hij
    rw [if_pos rfl] at hx
    simp only [hi', if_true, Option.some.injEq] at hx
    subst hx
    refine ⟨by simp [D.width, hsz], fun hc => (by cases hc), fun gs hgs k z' hz' => ?_⟩
    cases hgs
    rw [List.getElem?_set] at hz'
    by_cases hk : f = k
    · subst hk
      rw [if_pos rfl] at hz'
      simp only [hf, if_true, Option.some.injEq] at hz'
      subst hz'
      refine ⟨hz, u, ?_, hu⟩
      rw [splice_get hb, if_neg (by omega), if_pos (by simp), Nat.sub_self]
      rfl
    · rw [if_neg hk] at hz'
      obtain ⟨c, v, a, b⟩ := hag fs rfl k z' hz'
      refine ⟨c, v, ?_, b⟩
      rw [splice_get hb]
      by_cases c1 : i * sz + k < i * sz + f
      · rw [if_pos c1]; exact a
      · rw [if_neg c1, if_neg (by simp; omega)]; exact a
  · rw [if_neg hij] at hx
    obtain ⟨hw, hel⟩ := h2 j x hx
    refine ⟨hw, elemAt_get hel fun t ht => ?_⟩
    rcases elem_bound (sz := sz) (o := j * sz + t) (Ne.symm hij) (by omega) (by omega) with c | c
    · rw [splice_get hb, if_pos (by omega)]
    · rw [splice_get hb, if_neg (by omega), if_neg (by simp; omega)]

theorem cellsOK_oneCell {M : Mem} {sz : Nat} {xs : List D} {cs : List Value} (h : CellsOK M sz xs cs) : ∀ u ∈ cs, u.oneCell' = true := by
  intro u hu
  obtain ⟨o, ho⟩ := List.getElem?_of_mem hu
  have hol := (List.getElem?_eq_some_iff.1 ho).1
  rw [h.1] at hol
  have hpos : 0 < sz := by
    rcases Nat.eq_zero_or_pos sz with e | e
    · subst e; simp at hol
    · exact e
  have hj : o / sz < xs.length := (Nat.div_lt_iff_lt_mul hpos).2 hol
  obtain ⟨hw, h1, h2⟩ := h.2 (o / sz) _ (List.getElem?_eq_getElem hj)
  have hdm : o / sz * sz + o % sz = o := by rw [Nat.mul_comm]; exact Nat.div_add_mod o sz
  have hmod := Nat.mod_lt o hpos
  cases hx : xs[o / sz] with
  | agg fs =>
    have hlen : fs.length = sz := by rw [hx] at hw; exact hw
    obtain ⟨c, v, a, b⟩ := h2 fs hx (o % sz) _ (List.getElem?_eq_getElem (by omega))
    rw [hdm, ho] at a
    have e := Option.some.inj a
    subst e
    exact b.oneCell c
  | sc v =>
    have hcx : xs[o / sz].isCell = true := by rw [hx]; rfl
    obtain ⟨v', a, b⟩ := h1 hcx
    have : sz = 1 := by rw [hx] at hw; exact hw.symm
    subst this
    simp only [Nat.div_one, Nat.mul_one] at a
    rw [ho] at a
    have e := Option.some.inj a
    subst e
    exact b.oneCell hcx
  | ref k m =>
    obtain ⟨v', a, b⟩ := h1 (by rw [hx]; rfl)
    rw [hx] at b; cases b
  | own e z ys =>
    obtain ⟨v', a, b⟩ := h1 (by rw [hx]; rfl)
    rw [hx] at b; cases b
  | jk =>
    obtain ⟨v', a, b⟩ := h1 (by rw [hx]; rfl)
    rw [hx] at b; cases b
  | sl ys =>
    have hcx : xs[o / sz].isCell = true := by rw [hx]; rfl
    obtain ⟨v', a, b⟩ := h1 hcx
    have : sz = 1 := by rw [hx] at hw; exact hw.symm
    subst this
    simp only [Nat.div_one, Nat.mul_one] at a
    rw [ho] at a
    have e := Option.some.inj a
    subst e
    exact b.oneCell hcx

theorem cellsOK_replicate {M : Mem} {x : D} {us : List Value} {n : Nat} (hl : us.length = x.width) (he : ElemAt M x us 0) : CellsOK M x.width (List.replicate n x) ((List.replicate n us).flatten) := by
  have hlen : ∀ n, ((List.replicate n us).flatten).length = n * x.width := fun n => by simp [hl]
  refine ⟨by rw [hlen]; simp, fun j y hy => ?_⟩
  rw [List.getElem?_replicate] at hy
  split at hy
  case isFalse => cases hy
  case isTrue hj =>
  have e := Option.some.inj hy
  subst e
  refine ⟨rfl, ?_⟩
  have key : ∀ n j, j < n → ∀ i, i < x.width → ((List.replicate n us).flatten)[j * x.width + i]? = us[i]? := by
    intro n
    induction n with
    | zero => intro j hj; omega
    | succ n ih =>
      intro j hj i hi
      rw [List.replicate_succ, List.flatten_cons]
      cases j with
      | zero => rw [Nat.zero_mul, Nat.zero_add, List.getElem?_append_left (by omega)]
      | succ j =>
        rw [List.getElem?_append_right (by rw [hl, Nat.add_mul, Nat.one_mul]; omega)]
        have e : (j + 1) * x.width + i - us.length = j * x.width + i := by rw [hl, Nat.add_mul, Nat.one_mul]; omega
        rw [e]
        exact ih j (by omega) i hi
  refine ⟨fun hx => ?_, fun fs hfs i f hi => ?_⟩
  · obtain ⟨v, a, b⟩ := he.1 hx
    have := key n j hj 0 (by rw [width_one hx]; exact Nat.one_pos)
    simp only [Nat.add_zero] at this
    exact ⟨v, by rw [this]; exact a, b⟩
  · obtain ⟨c, v, a, b⟩ := he.2 fs hfs i f hi
    have hw : i < x.width := by subst hfs; exact (List.getElem?_eq_some_iff.1 hi).1
    refine ⟨c, v, ?_, b⟩
    rw [key n j hj i hw]
    simpa using a

theorem toList_madeCells (z : Array Value) (n : Nat) (hz : 0 < z.size) : (madeCells z (n * z.size)).toList = (List.replicate n z.toList).flatten := by
  apply List.ext_getElem?
  intro j
  have hlen : ((List.replicate n z.toList).flatten).length = n * z.size := by simp
  by_cases hj : j < n * z.size
  · have h1 : (madeCells z (n * z.size)).toList[j]? = some (z[j % z.size]!) := by
      simp [madeCells, hj]
    rw [h1]
    have hm := Nat.mod_lt j hz
    have key : ∀ n j, j < n * z.size → ((List.replicate n z.toList).flatten)[j]? = z.toList[j % z.size]? := by
      intro n
      induction n with
      | zero => intro j hj; simp at hj
      | succ n ih =>
        intro j hj
        rw [List.replicate_succ, List.flatten_cons]
        by_cases hjz : j < z.size
        · rw [List.getElem?_append_left (by simpa using hjz), Nat.mod_eq_of_lt hjz]
        · rw [List.getElem?_append_right (by simpa using hjz)]
          rw [Nat.add_mul, Nat.one_mul] at hj
          rw [Array.length_toList, ih (j - z.size) (by omega)]
          congr 1
          exact (Nat.mod_eq_sub_mod (by omega)).symm
    rw [key n j hj]
    rw [Array.getElem?_toList, Array.getElem?_eq_getElem hm]
    simp [hm]
  · rw [List.getElem?_eq_none (by simp [madeCells]; omega), List.getElem?_eq_none (by rw [hlen]; omega)]

theorem fold_set (o : Nat) : ∀ (us : List Value) (k : Nat) (c : Array Value), o + k + us.length ≤ c.size →
    ((us.zipIdx k).foldl (fun cs (p : Value × Nat) => cs.setIfInBounds (o + p.2) p.1) c).toList = c.toList.take (o + k) ++ us ++ c.toList.drop (o + k + us.length)
  | [], k, c, _ => by simp
  | u :: us, k, c, h => by
    have hk : o + k < c.toList.length := by simp at h ⊢; omega
    rw [List.zipIdx_cons, List.foldl_cons]
    rw [fold_set o us (k + 1) (c.setIfInBounds (o + k) u) (by simp at h ⊢; omega)]
    simp only [Array.toList_setIfInBounds]
    rw [← Nat.add_assoc, List.take_succ_eq_append_getElem (by simpa using hk)]
    simp only [List.getElem_set_self, List.append_assoc, List.cons_append, List.nil_append, List.length_cons]
    rw [List.take_set_of_le (Nat.le_refl _), List.drop_set_of_lt (by omega)]
    congr 4
    omega

/-- Parts laid into the cells of a struct or a slice. -/
theorem fill_ok {M : Mem} {sz : Nat} {place : Nat → Option (Nat × Nat)} : ∀ (parts : List (Nat × Value)) (ds : List D) (xs : List D) (cs : Array Value), CellsOK M sz xs cs.toList →
    ds.length = parts.length → (∀ (j : Nat) (p : Nat × Value) (d : D), parts[j]? = some p → ds[j]? = some d → place p.1 = some (p.1 * sz, sz) ∧ p.1 < xs.length ∧ d.width = sz ∧ Rep M d p.2) →
    ∃ cs' : Array Value, Instr.fill place cs parts = some cs' ∧ CellsOK M sz ((parts.zip ds).foldl (fun xs q => xs.set q.1.1 q.2) xs) cs'.toList
  | [], ds, xs, cs, h, hl, _ => ⟨cs, rfl, by simpa using h⟩
  | (i, v) :: rest, d :: ds, xs, cs, h, hl, hp => by
    obtain ⟨hpl, hi, hd, hr⟩ := hp 0 _ _ rfl rfl
    obtain ⟨hvs, hv1, hve⟩ := hr.cells_one
    simp only at hpl hi hr hvs hv1 hve
    have hb : i * sz + v.cells.size ≤ cs.size := by
      have := mul_succ_le (sz := sz) hi
      have h1 := h.1
      simp only [Array.length_toList] at h1
      omega
    have hsplice : (v.cells.zipIdx.foldl (fun cs (c, j) => cs.setIfInBounds (i * sz + j) c) cs).toList = cs.toList.take (i * sz) ++ v.cells.toList ++ cs.toList.drop (i * sz + v.cells.toList.length) := by
      rw [← Array.foldl_toList, Array.toList_zipIdx]
      have := fold_set (i * sz) v.cells.toList 0 cs (by simpa using hb)
      simpa using this
    have hset := cellsOK_set h hi hd (us := v.cells.toList) (by rw [Array.length_toList, hvs, hd]) hve
    rw [← hsplice] at hset
    obtain ⟨cs', h1, h2⟩ := fill_ok rest ds (xs.set i d) _ hset (by simpa using hl) (fun j p d' hj hd' => by
      obtain ⟨a, b, c, e⟩ := hp (j + 1) p d' (by simpa using hj) (by simpa using hd')
      exact ⟨a, by simpa using b, c, e⟩)
    refine ⟨cs', ?_, by simpa using h2⟩
    simp only [Instr.fill, hpl]
    rw [if_neg]
    · exact h1
    · have c1 : v.cells.size = sz := by rw [hvs, hd]
      rw [c1] at hb
      simp [c1]
      omega
end Go.DL

namespace Go.DL
open Go.RowKit

/-! ### Contracts -/
inductive A1 where
  | d (x : D)
  | fn (f : FuncId)
def RepA (M : Mem) : A1 → Value → Prop
  | .d x, v => Rep M x v
  | .fn f, v => v = .func (.func f) #[] #[]

inductive R1 where
  | d (x : D)
  | own (A : Arr)
  | ptr (A : Arr)
  | fr (A : Arr)
  | tr (d : D)
inductive Res where
  | one (r : R1)
  | tup (r : R1) (rest : List D)
  | unit

/-- A tree of new blocks: a slice, or a struct whose fields own their rows. -/
structure TrVal (b : Nat) (w : World) (d : D) (v : Value) (ψ : Nat → Nat → Prop) : Prop where
  len : v.cells.size = d.width
  at' : ∀ (p : Nat) (d' : D) (u : Value), d.fl[p]? = some d' → v.cells.toList[p]? = some u → CellT w (fun _ => none) (fun _ => false) (fun _ => undef) d' u (ψ p)
  new : ∀ p g, ψ p g → b ≤ g ∧ g < w.heap.size
  dis : ∀ p p' g, ψ p g → ψ p' g → p = p'
  one : d.isCell = true → v.cells = #[v]
  agg : ∀ fs, d = .agg fs → ∃ cs, v = .agg cs
def RepR1 (w w' : World) (M' : Mem) : R1 → Value → Prop
  | .tr d, v => ∃ ψ, TrVal w.heap.size w' d v ψ
  | .d x, v => Rep M' x v
  | .own A, v => 0 < A.sz ∧ ∃ cs : List Value, w'.ownsRow w.heap.size A.e A.sz v A.xs.length cs ∧ CellsOK M' A.sz A.xs cs ∧ ∀ g, v.ownBlock = some g → ∀ off sp, M' ⟨g, off, sp⟩ = none
  | .ptr A, v => 0 < A.sz ∧ 0 < A.xs.length ∧ ∃ (u : Value) (g : Nat), u.ownBlock = some g ∧ v = .pointer (some ⟨g, 0, none⟩) ∧ ∃ cs : List Value, w'.ownsRow w.heap.size A.e A.sz u A.xs.length cs ∧ CellsOK M' A.sz A.xs cs ∧ ∀ off sp, M' ⟨g, off, sp⟩ = none
  | .fr A, v => 0 < A.sz ∧ ∃ cs : List Value, w'.ownsRow w.heap.size A.e A.sz v A.xs.length cs ∧ CellsOK (fun _ => none) A.sz A.xs cs
def RepRes (w w' : World) (M' : Mem) : Res → Value → Prop
  | .one r, v => RepR1 w w' M' r v
  | .tup r rest, v => ∃ vs : Array Value, v = .tuple vs ∧ vs.size = rest.length + 1 ∧ RepR1 w w' M' r (vs.getD 0 undef) ∧ ∀ (j : Nat) (x : D), rest[j]? = some x → Rep M' x (vs.getD (j + 1) undef)
  | .unit, v => v = .tuple #[]

def Enters (P : Program) (f : FuncId) : Prop := ∀ (args : Array Value) (w : World), (callFunc f args).run P w = .ok (.enter f args) w

def After (w : World) (M : Mem) (r : Res) (e : Ending) (w' : World) : Prop :=
  ∃ v M', e = .returned v ∧ Below w.heap.size w w' ∧ Mem.le M M' ∧ (∀ a u, M' a = some u → w'.cell? a = some u) ∧ (∀ a u, M' a = some u → M a = some u ∨ w.heap.size ≤ a.block) ∧ RepRes w w' M' r v

/-- Every call of f with arguments that read so hands back what reads so, and turns nothing that was there. -/
structure Contract (P : Program) (f : FuncId) (as : List A1) (r : Res) : Prop where
  ent : Enters P f
  run : ∀ (w : World) (M : Mem) (vs : Array Value), (∀ a v, M a = some v → w.cell? a = some v) → vs.size = as.length → (∀ (j : Nat) (a : A1), as[j]? = some a → RepA M a (vs.getD j undef)) →
    Calls P f vs w (After w M r)

/-! ### Calls to which an own array is lent, and calls whose result is known by a property -/
inductive A2 where
  | d (x : D)
  | fn (f : FuncId)
  | lv
  | lp
def RepA2 (M : Mem) (γ : Value) : A2 → Value → Prop
  | .d x, v => Rep M x v
  | .fn f, v => v = .func (.func f) #[] #[]
  | .lv, v => v = γ
  | .lp, v => ∃ g, γ.ownBlock = some g ∧ v = .pointer (some ⟨g, 0, none⟩)
/-- An array that is lent: it lies in the world, and nothing that is immutable lies in it. -/
structure LentOK (w : World) (M : Mem) (A : Arr) (v : Value) : Prop where
  own : ∃ cs : List Value, w.ownsRow 0 A.e A.sz v A.xs.length cs ∧ CellsOK M A.sz A.xs cs
  nm : ∀ g, v.ownBlock = some g → ∀ off sp, M ⟨g, off, sp⟩ = none
  pos : 0 < A.sz
structure LAfter (w : World) (M : Mem) (γ : Value) (A : Option Arr) (w' : World) (M' : Mem) (xs : List D) : Prop where
  os : w'.os = w.os
  tape : w'.tape = w.tape
  output : w'.output = w.output
  hsz : w.heap.size ≤ w'.heap.size
  frame : ∀ k, k < w.heap.size → (∀ A0, A = some A0 → γ.ownBlock ≠ some k) → w'.heap[k]? = w.heap[k]?
  le : Mem.le M M'
  mw : ∀ a u, M' a = some u → w'.cell? a = some u
  mn : ∀ a u, M' a = some u → M a = some u ∨ w.heap.size ≤ a.block
  lent : ∀ A0, A = some A0 → xs.length = A0.xs.length ∧ LentOK w' M' ⟨A0.e, A0.sz, xs⟩ γ
def LEnds (w : World) (M : Mem) (γ : Value) (A : Option Arr) (R : Res → List D → Prop) (e : Ending) (w' : World) : Prop :=
  ∃ v M' r xs, R r xs ∧ e = .returned v ∧ LAfter w M γ A w' M' xs ∧ RepRes w w' M' r v
/-- Every call with such arguments, and such an array lent, hands back what is so. -/
structure LContract (P : Program) (f : FuncId) (as : List A2) (A : Option Arr) (R : Res → List D → Prop) : Prop where
  ent : Enters P f
  run : ∀ (w : World) (M : Mem) (γ : Value) (vs : Array Value), (∀ a v, M a = some v → w.cell? a = some v) → (∀ A0, A = some A0 → LentOK w M A0 γ) → vs.size = as.length → (∀ (j : Nat) (a : A2), as[j]? = some a → RepA2 M γ a (vs.getD j undef)) →
    Calls P f vs w (LEnds w M γ A R)

/-! ### Calls to which an own array is given away: what comes back may be that array -/
structure MAfter (w : World) (M : Mem) (γ : Value) (w' : World) (M' : Mem) : Prop where
  os : w'.os = w.os
  tape : w'.tape = w.tape
  output : w'.output = w.output
  hsz : w.heap.size ≤ w'.heap.size
  frame : ∀ k, k < w.heap.size → γ.ownBlock ≠ some k → w'.heap[k]? = w.heap[k]?
  le : Mem.le M M'
  mw : ∀ a u, M' a = some u → w'.cell? a = some u
  mn : ∀ a u, M' a = some u → M a = some u ∨ w.heap.size ≤ a.block ∨ γ.ownBlock = some a.block
structure MRes (w w' : World) (M' : Mem) (γ : Value) (B : Arr) (rest : List Value) (vs : Array Value) : Prop where
  size : vs.size = rest.length + 1
  tail : ∀ (j : Nat) (x : Value), rest[j]? = some x → Rep M' (.sc x) (vs.getD (j + 1) undef)
  pos : 0 < B.sz
  own : ∃ cs : List Value, w'.ownsRow 0 B.e B.sz (vs.getD 0 undef) B.xs.length cs ∧ CellsOK M' B.sz B.xs cs
  new : ∀ g, (vs.getD 0 undef).ownBlock = some g → (w.heap.size ≤ g ∨ γ.ownBlock = some g) ∧ ∀ off sp, M' ⟨g, off, sp⟩ = none
/-- One result is handed back as it is. -/
def mvV (vs : Array Value) (rest : List Value) : Value :=
  match rest with
  | [] => vs.getD 0 undef
  | _ :: _ => .tuple vs
def mvS (d m : Nat) (rest : List Value) : S :=
  match rest with
  | [] => .av d m
  | _ :: _ => .tup (.av d m :: rest.map fun u => .d (.sc u))
def MEnds (w : World) (M : Mem) (γ : Value) (B : Arr) (rest : List Value) (e : Ending) (w' : World) : Prop :=
  ∃ vs M', e = .returned (mvV vs rest) ∧ MAfter w M γ w' M' ∧ MRes w w' M' γ B rest vs
/-- Every call with such arguments, and such an array given away, hands back an own array and scalars. -/
structure MContract (P : Program) (f : FuncId) (as : List A2) (A B : Arr) (rest : List Value) : Prop where
  ent : Enters P f
  run : ∀ (w : World) (M : Mem) (γ : Value) (vs : Array Value), (∀ a v, M a = some v → w.cell? a = some v) → LentOK w M A γ → vs.size = as.length → (∀ (j : Nat) (a : A2), as[j]? = some a → RepA2 M γ a (vs.getD j undef)) →
    Calls P f vs w (MEnds w M γ B rest)

inductive ToA (τ : Ab) : S → A1 → List Nat → Prop
  | d {s : S} {x : D} {ks : List Nat} (h : ToD τ s x ks) : ToA τ s (.d x) ks
  | fn (f : FuncId) : ToA τ (.fn f) (.fn f) []
inductive ToAs (τ : Ab) : List S → List A1 → List Nat → Prop
  | nil : ToAs τ [] [] []
  | cons {s : S} {x : A1} {k : List Nat} {ss : List S} {xs : List A1} {ks : List Nat} (h : ToA τ s x k) (t : ToAs τ ss xs ks) : ToAs τ (s :: ss) (x :: xs) (k ++ ks)

/-- What is lent is array k. -/
inductive ToL (τ : Ab) (k : Nat) (A : Option Arr) : S → A2 → List Nat → Prop
  | d {s : S} {x : D} {ks : List Nat} (h : ToD τ s x ks) : ToL τ k A s (.d x) ks
  | fn (f : FuncId) : ToL τ k A (.fn f) (.fn f) []
  | lv (m : Nat) (A0 : Arr) (hA : A = some A0) (h : m = A0.xs.length) : ToL τ k A (.av k m) .lv []
  | lp (A0 : Arr) (hA : A = some A0) : ToL τ k A (.ae k 0) .lp []
inductive ToLs (τ : Ab) (k : Nat) (A : Option Arr) : List S → List A2 → List Nat → Prop
  | nil : ToLs τ k A [] [] []
  | cons {s : S} {x : A2} {j : List Nat} {ss : List S} {xs : List A2} {ks : List Nat} (h : ToL τ k A s x j) (t : ToLs τ k A ss xs ks) : ToLs τ k A (s :: ss) (x :: xs) (j ++ ks)
theorem ToL.locl {τ τ' : Ab} {k : Nat} {A : Option Arr} {s : S} {x : A2} {ks : List Nat} (h : ToL τ k A s x ks) (hc : ∀ j, (∃ A, s = .av j A) → τ'.c j = τ.c j) : ToL τ' k A s x ks := by
  cases h with
  | d h =>
    refine .d ?_
    cases h with
    | d => exact .d _
    | nil => exact .nil
    | av j m A0 hA => exact .av j m A0 (by rw [hc j ⟨m, rfl⟩]; exact hA)
  | fn f => exact .fn f
  | lv m A0 hA h => exact .lv m A0 hA h
  | lp A0 hA => exact .lp A0 hA

theorem ToA.of_c {τ τ' : Ab} (hc : τ'.c = τ.c) {s : S} {x : A1} {ks : List Nat} (h : ToA τ s x ks) : ToA τ' s x ks := by
  cases h with
  | d h => exact .d (h.of_c hc)
  | fn f => exact .fn f
theorem ToAs.of_c {τ τ' : Ab} (hc : τ'.c = τ.c) {ss : List S} {xs : List A1} {ks : List Nat} (h : ToAs τ ss xs ks) : ToAs τ' ss xs ks := by
  induction h with
  | nil => exact .nil
  | cons h t ih => exact .cons (h.of_c hc) ih
theorem RepA.mono {M M' : Mem} (hM : Mem.le M M') {a : A1} {v : Value} (h : RepA M a v) : RepA M' a v := by
  cases a with
  | d x => exact Rep.mono hM h
  | fn f => exact h

structure Ef where
  s : S
  sh : List Nat := []
  al : Option (Nat × Arr) := none
  up : Option (Nat × Arr) := none
  ki : Option Nat := none
  gh : List (Nat × S) := []
  nu : List Nat := []

def lkG (t : Nat) : List (Nat × S) → Option S
  | [] => none
  | (j, s) :: r => if t = j then some s else lkG t r
/-- Tree arrays are laid or changed; keys come into use. -/
def Ab.gho (τ : Ab) : List (Nat × S) → List Nat → Ab
  | [], [] => τ
  | gh, nu => { τ with s := fun t => (lkG t gh).getD (τ.s t), us := fun k => nu.contains k || τ.us k }
theorem gho_s (τ : Ab) (gh : List (Nat × S)) (nu : List Nat) (t : Nat) : (τ.gho gh nu).s t = (lkG t gh).getD (τ.s t) := by
  unfold Ab.gho; split <;> rfl
theorem gho_us (τ : Ab) (gh : List (Nat × S)) (nu : List Nat) (k : Nat) : (τ.gho gh nu).us k = (nu.contains k || τ.us k) := by
  unfold Ab.gho; split <;> rfl
theorem gho_c (τ : Ab) (gh : List (Nat × S)) (nu : List Nat) : (τ.gho gh nu).c = τ.c := by
  unfold Ab.gho; split <;> rfl
theorem gho_sh (τ : Ab) (gh : List (Nat × S)) (nu : List Nat) : (τ.gho gh nu).sh = τ.sh := by
  unfold Ab.gho; split <;> rfl
def Ab.kiO (τ : Ab) : Option Nat → Ab
  | some k => τ.kill k
  | none => τ
def Ab.upO (τ : Ab) : Option (Nat × Arr) → Ab
  | some (k, A) => τ.up k A
  | none => τ
def Ab.alO (τ : Ab) : Option (Nat × Arr) → Ab
  | some (k, A) => τ.al k A
  | none => τ
def Ab.eff (τ : Ab) (dst : Option Nat) (e : Ef) : Ab := (((((τ.shares e.sh).kiO e.ki).upO e.up).alO e.al).gho e.gh e.nu).put dst e.s

def LoadFit : Ty → D → Prop
  | .st fs, .agg gs => fs.length = gs.length
  | .st _, _ => False
  | _, .agg _ => False
  | _, _ => True

inductive ResE (τ : Ab) (dst : Option Nat) : Res → S → Option (Nat × Arr) → Prop
  | d (x : D) : ResE τ dst (.one (.d x)) (.d x) none
  | own (A : Arr) (d : Nat) (h : dst = some d) (hu : τ.us d = false) : ResE τ dst (.one (.own A)) (.av d A.xs.length) (some (d, A))
  | ptr (A : Arr) (d : Nat) (h : dst = some d) (hu : τ.us d = false) : ResE τ dst (.one (.ptr A)) (.ae d 0) (some (d, A))
  | tupd (x : D) (rest : List D) : ResE τ dst (.tup (.d x) rest) (.tup (.d x :: rest.map .d)) none
  | tupo (A : Arr) (rest : List D) (d : Nat) (h : dst = some d) (hu : τ.us d = false) : ResE τ dst (.tup (.own A) rest) (.tup (.av d A.xs.length :: rest.map .d)) (some (d, A))
  | unit : ResE τ dst .unit .junk none

def D.flat : D → Bool
  | .sc _ => true
  | _ => false
inductive FlatRes : Res → S → Prop
  | d (v : Value) : FlatRes (.one (.d (.sc v))) (.d (.sc v))
  | tup (v : Value) (rest : List Value) : FlatRes (.tup (.d (.sc v)) (rest.map .sc)) (.tup (.d (.sc v) :: rest.map fun u => .d (.sc u)))

/-- An own array of scalars that a call hands back: nothing that came in is shared. -/
inductive FrRes (τ : Ab) (dst : Option Nat) : Res → S → Nat × Arr → Prop
  | one (A : Arr) (d : Nat) (h : dst = some d) (hu : τ.us d = false) : FrRes τ dst (.one (.fr A)) (.av d A.xs.length) (d, A)
  | tup (A : Arr) (rest : List Value) (d : Nat) (h : dst = some d) (hu : τ.us d = false) : FrRes τ dst (.tup (.fr A) (rest.map .sc)) (.tup (.av d A.xs.length :: rest.map fun u => .d (.sc u))) (d, A)
theorem FrRes.fst {τ : Ab} {dst : Option Nat} {r : Res} {s : S} {p : Nat × Arr} (h : FrRes τ dst r s p) : dst = some p.1 ∧ τ.us p.1 = false := by
  cases h with
  | one A d h hu => exact ⟨h, hu⟩
  | tup A rest d h hu => exact ⟨h, hu⟩
theorem FrRes.ref {τ : Ab} {dst : Option Nat} {r : Res} {s : S} {p : Nat × Arr} (h : FrRes τ dst r s p) {k : Nat} : (match s with | .av j _ => k = j | .tup xs => ∃ t ∈ xs, (match t with | .av j _ => k = j | .fv j _ => k = j | .d _ => False) | _ => False) → k = p.1 := by
  cases h with
  | one A d h hu => exact fun h => h
  | tup A rest d h hu =>
    rintro ⟨t, ht, h⟩
    rcases List.mem_cons.1 ht with rfl | ht
    · exact h
    · obtain ⟨u, _, rfl⟩ := List.mem_map.1 ht; exact h.elim
theorem FrRes.usd {τ τ' : Ab} {dst : Option Nat} {r : Res} {s : S} {p : Nat × Arr} (h : FrRes τ dst r s p) (hu : ∀ d, dst = some d → τ.us d = false → τ'.us d = false) : FrRes τ' dst r s p := by
  cases h with
  | one A d h h2 => exact .one A d h (hu d h h2)
  | tup A rest d h h2 => exact .tup A rest d h (hu d h h2)
/-- What an operand holds, read where it stands. -/
inductive ToCont (τ : Ab) : S → List D → Prop
  | d (xs : List D) : ToCont τ (.d (.sl xs)) xs
  | nil : ToCont τ .nil []
  | av (k m : Nat) (A : Arr) (h : τ.c k = some A) : ToCont τ (.av k m) (A.xs.take m)
  | aw (k l m : Nat) (A : Arr) (h : τ.c k = some A) : ToCont τ (.aw k l m) ((A.xs.take m).drop l)

/-- Operations that read memory or lay new memory. -/
inductive TEff (P : Program) (T : Tys) (o : Oper) (τ : Ab) : Ef → Prop
  | pure (s : S) (h : PEff P T o.op τ.val s) : TEff P T o τ { s }
  | alloc (t : TypeId) (ty : Ty) (d : Nat) (ho : o.op = .alloc t) (hd : o.dst = some d) (hu : τ.us d = false) (hT : (t, ty) ∈ T) (hw : 0 < ty.width) :
      TEff P T o τ { s := .ae d 0, al := some (d, ⟨t, ty.width, [ty.zeroD]⟩) }
  | box (t : TypeId) (x : Operand) (y : D) (ks : List Nat) (d : Nat) (ho : o.op = .box t x) (hd : o.dst = some d) (hu : τ.us d = false) (hx : ToD τ (τ.val x) y ks) (hw : 0 < y.width) :
      TEff P T o τ { s := .ae d 0, sh := ks, al := some (d, ⟨t, y.width, [y]⟩) }
  | build (t : TypeId) (parts : Array (Nat × Operand)) (Fs : List F) (ds : List D) (ks : List Nat) (ho : o.op = .build t parts) (hT : (t, .st Fs) ∈ T)
      (hx : ToDs τ (parts.toList.map fun p => τ.val p.2) ds ks) (hc : ∀ d ∈ ds, d.isCell = true) (hi : ∀ p ∈ parts.toList, p.1 < Fs.length) :
      TEff P T o τ { s := .d (.agg (((parts.toList.map (·.1)).zip ds).foldl (fun xs q => xs.set q.1 q.2) (Fs.map F.zeroD))), sh := ks }
  | buildSlice (t : TypeId) (len : Nat) (parts : Array (Nat × Operand)) (e : TypeId) (ety : Ty) (ds : List D) (ks : List Nat) (d : Nat) (ho : o.op = .buildSlice t len parts) (hd : o.dst = some d) (hu : τ.us d = false)
      (hT : (t, .sl e) ∈ T) (hE : (e, ety) ∈ T) (hx : ToDs τ (parts.toList.map fun p => τ.val p.2) ds ks) (hc : ∀ d ∈ ds, d.width = ety.width) (hi : ∀ p ∈ parts.toList, p.1 < len) (hw : 0 < ety.width) (hl : len * ety.width ≤ 2 ^ 24) :
      TEff P T o τ { s := .av d len, sh := ks, al := some (d, ⟨e, ety.width, ((parts.toList.map (·.1)).zip ds).foldl (fun xs q => xs.set q.1 q.2) (List.replicate len ety.zeroD)⟩) }
  | makeSlice (t : TypeId) (x y : Operand) (m : Nat) (k k' : IntKind) (e : TypeId) (ety : Ty) (d : Nat) (ho : o.op = .makeSlice t x y) (hd : o.dst = some d) (hu : τ.us d = false) (hT : (t, .sl e) ∈ T) (hE : (e, ety) ∈ T)
      (hx : τ.val x = .d (.sc (.int k (m : Int)))) (hy : τ.val y = .d (.sc (.int k' (m : Int)))) (hm : m ≤ 34359738368) (hw : 0 < ety.width) :
      TEff P T o τ { s := .av d m, al := some (d, ⟨e, ety.width, List.replicate m ety.zeroD⟩) }
  | loadE (t : TypeId) (x : Operand) (y : D) (ty : Ty) (ho : o.op = .load t x) (hT : (t, ty) ∈ T) (hx : τ.val x = .el y) (hf : LoadFit ty y) : TEff P T o τ { s := .d y }
  | loadA (t : TypeId) (x : Operand) (k i : Nat) (A : Arr) (y : D) (ty : Ty) (ho : o.op = .load t x) (hT : (t, ty) ∈ T) (hx : τ.val x = .ae k i) (hA : τ.c k = some A) (hy : A.xs[i]? = some y) (hf : LoadFit ty y) : TEff P T o τ { s := .d y }
  | loadF (t : TypeId) (x : Operand) (k i f : Nat) (A : Arr) (fs : List D) (y : D) (ty : Ty) (ho : o.op = .load t x) (hT : (t, ty) ∈ T) (hx : τ.val x = .af k i f) (hA : τ.c k = some A) (hi : A.xs[i]? = some (.agg fs)) (hy : fs[f]? = some y)
      (hf : LoadFit ty y) : TEff P T o τ { s := .d y }
  | fieldA (t : TypeId) (x : Operand) (f : Nat) (Fs : List F) (k i : Nat) (A : Arr) (ho : o.op = .fieldAddr t x f) (hT : (t, .st Fs) ∈ T) (hl : f < Fs.length) (hx : τ.val x = .ae k i) (hA : τ.c k = some A) : TEff P T o τ { s := .af k i f }
  | sliceA (t : TypeId) (x : Operand) (hi : Option Operand) (e : TypeId) (ety : Ty) (k m h : Nat) (A : Arr) (ho : o.op = .slice t x none hi none) (hT : (t, .sl e) ∈ T) (hE : (e, ety) ∈ T) (hx : τ.val x = .av k m) (hA : τ.c k = some A)
      (hhi : boundOf τ.val hi m h) (hh : h ≤ m) : TEff P T o τ { s := .av k h }
  | sliceW (t : TypeId) (x lo : Operand) (hi : Option Operand) (e : TypeId) (ety : Ty) (k m l h : Nat) (A : Arr) (ho : o.op = .slice t x (some lo) hi none) (hT : (t, .sl e) ∈ T) (hE : (e, ety) ∈ T) (hx : τ.val x = .av k m) (hA : τ.c k = some A) (hsz : ety.width = A.sz)
      (hlo : boundOf τ.val (some lo) 0 l) (hhi : boundOf τ.val hi m h) (hlh : l ≤ h) (hh : h ≤ m) : TEff P T o τ { s := .aw k l h }
  | indexA (t : TypeId) (x ix : Operand) (e : TypeId) (ety : Ty) (k m j : Nat) (kd : IntKind) (A : Arr) (ho : o.op = .indexAddr t x ix) (hT : (t, .sl e) ∈ T) (hE : (e, ety) ∈ T) (hx : τ.val x = .av k m) (hA : τ.c k = some A) (hsz : ety.width = A.sz)
      (hi : τ.val ix = .d (.sc (.int kd (j : Int)))) (hj : j < m) : TEff P T o τ { s := .ae k j }
  | lenA (t : TypeId) (x : Operand) (e : TypeId) (k m : Nat) (ho : o.op = .call { callee := .builtin .len, args := #[x], argTypes := #[t] }) (hT : (t, .sl e) ∈ T) (hx : τ.val x = .av k m) : TEff P T o τ { s := .d (.sc (.int .i64 m)) }
  | nilA (x : Operand) (k i : Nat) (A : Arr) (ho : o.op = .nilCheck x) (hx : τ.val x = .ae k i) (hA : τ.c k = some A) : TEff P T o τ { s := .ae k i }
  | convS (src dst e : TypeId) (x : Operand) (bs : List Int) (ho : o.op = .convert src dst x) (hT : (src, .sl e) ∈ T) (hE : (e, .u8) ∈ T) (hD : (dst, .str) ∈ T) (hx : ToCont τ (τ.val x) (bs.map fun n => .sc (.int .u8 n))) :
      TEff P T o τ { s := .d (.sc (.string (bs.foldl (fun r n => r.push (UInt8.ofNat n.toNat)) ByteArray.empty))) }
  | call (fx : Operand) (args : Array Operand) (tys : Array TypeId) (f : FuncId) (as : List A1) (ks : List Nat) (r : Res) (s : S) (al : Option (Nat × Arr)) (ho : o.op = .call { callee := .value fx, args, argTypes := tys }) (hf : τ.val fx = .fn f)
      (hx : ToAs τ (args.toList.map τ.val) as ks) (hc : Contract P f as r) (hr : ResE τ o.dst r s al) : TEff P T o τ { s, sh := ks, al }
  | callFlat (fx : Operand) (args : Array Operand) (tys : Array TypeId) (f : FuncId) (as : List A1) (ks : List Nat) (r : Res) (s : S) (ho : o.op = .call { callee := .value fx, args, argTypes := tys }) (hf : τ.val fx = .fn f)
      (hx : ToAs τ (args.toList.map τ.val) as ks) (hc : Contract P f as r) (hr : FlatRes r s) : TEff P T o τ { s }
  | callFr (fx : Operand) (args : Array Operand) (tys : Array TypeId) (f : FuncId) (as : List A1) (ks : List Nat) (r : Res) (s : S) (p : Nat × Arr) (ho : o.op = .call { callee := .value fx, args, argTypes := tys }) (hf : τ.val fx = .fn f)
      (hx : ToAs τ (args.toList.map τ.val) as ks) (hc : Contract P f as r) (hr : FrRes τ o.dst r s p) : TEff P T o τ { s, al := some p }

/-- Operations that write. R holds 100000 + f for each function f to which arrays are lent. -/
inductive WEff (P : Program) (T : Tys) (R : List Nat) (o : Oper) (τ : Ab) : Ef → Prop
  | storeA (t : TypeId) (x y : Operand) (k i : Nat) (A : Arr) (z : D) (ks : List Nat) (ty : Ty) (ho : o.op = .store t x y) (hT : (t, ty) ∈ T) (hx : τ.val x = .ae k i) (hA : τ.c k = some A) (hy : ToD τ (τ.val y) z ks)
      (hsh : (τ.shares ks).sh k = false) (hi : i < A.xs.length) (hz : z.width = A.sz) (hw : ty.width = A.sz) : WEff P T R o τ { s := .un, sh := ks, up := some (k, ⟨A.e, A.sz, A.xs.set i z⟩) }
  | storeF (t : TypeId) (x y : Operand) (k i f : Nat) (A : Arr) (fs : List D) (z : D) (ks : List Nat) (ty : Ty) (ho : o.op = .store t x y) (hT : (t, ty) ∈ T) (hx : τ.val x = .af k i f) (hA : τ.c k = some A) (hy : ToD τ (τ.val y) z ks)
      (hsh : (τ.shares ks).sh k = false) (hi : A.xs[i]? = some (.agg fs)) (hf : f < fs.length) (hz : z.isCell = true) (hw : ty.width = 1) : WEff P T R o τ { s := .un, sh := ks, up := some (k, ⟨A.e, A.sz, A.xs.set i (.agg (fs.set f z))⟩) }
  | appendA (t : TypeId) (x y : Operand) (e : TypeId) (ety : Ty) (k m d : Nat) (A : Arr) (ys : List D) (ho : o.op = .call { callee := .builtin .append, args := #[x, y], argTypes := #[t, t] }) (hd : o.dst = some d) (hu : τ.us d = false)
      (hds : τ.sh d = false) (hT : (t, .sl e) ∈ T) (hE : (e, ety) ∈ T) (hx : τ.val x = .av k m) (hA : τ.c k = some A) (hsh : τ.sh k = false) (he : A.e = e) (hsz : ety.width = A.sz) (hy : ToCont τ (τ.val y) ys) (hw : ∀ z ∈ ys, z.width = ety.width)
      (hl : m + ys.length ≤ 34359738368) : WEff P T R o τ { s := .av d (m + ys.length), ki := some k, al := some (d, ⟨A.e, A.sz, A.xs.take m ++ ys⟩) }
  | appendN (t : TypeId) (x y : Operand) (e : TypeId) (ety : Ty) (d : Nat) (ys : List D) (ho : o.op = .call { callee := .builtin .append, args := #[x, y], argTypes := #[t, t] }) (hd : o.dst = some d) (hu : τ.us d = false)
      (hT : (t, .sl e) ∈ T) (hE : (e, ety) ∈ T) (hp : 0 < ety.width) (hx : τ.val x = .nil) (hy : ToCont τ (τ.val y) ys) (hw : ∀ z ∈ ys, z.width = ety.width)
      (hl : ys.length ≤ 34359738368) : WEff P T R o τ { s := .av d ys.length, al := some (d, ⟨e, ety.width, ys⟩) }
  | lcall (fx : Operand) (args : Array Operand) (tys : Array TypeId) (f : FuncId) (as : List A2) (ks : List Nat) (k : Nat) (A : Arr) (r : Res) (xs : List D) (s : S) (al : Option (Nat × Arr)) (ho : o.op = .call { callee := .value fx, args, argTypes := tys })
      (hfx : fx = .func f) (hL : R.contains (100000 + f) = true) (hx : ToLs τ k (some A) (args.toList.map τ.val) as ks) (hk : ∃ p ∈ args.toList, τ.val p = .av k A.xs.length ∨ τ.val p = .ae k 0) (hA : τ.c k = some A) (hsh : (τ.shares ks).sh k = false)
      (hc : LContract P f as (some A) (fun r' xs' => r' = r ∧ xs' = xs)) (hr : ResE τ o.dst r s al) : WEff P T R o τ { s, sh := ks, al, up := some (k, ⟨A.e, A.sz, xs⟩) }

/-- A call whose results are known by a property; E holds what may come of it. -/
inductive DEff (P : Program) (T : Tys) (o : Oper) (τ : Ab) (E : Ef → Prop) : Prop
  | lcall (fx : Operand) (args : Array Operand) (tys : Array TypeId) (f : FuncId) (as : List A2) (ks : List Nat) (k : Nat) (A : Arr) (R : Res → List D → Prop) (ho : o.op = .call { callee := .value fx, args, argTypes := tys })
      (hfx : fx = .func f) (hx : ToLs τ k (some A) (args.toList.map τ.val) as ks) (hA : τ.c k = some A) (hsh : (τ.shares ks).sh k = false)
      (hc : LContract P f as (some A) R) (hr : ∀ r xs, R r xs → ∃ s al, ResE τ o.dst r s al ∧ E { s, sh := ks, al, up := some (k, ⟨A.e, A.sz, xs⟩) })
  | pcall (fx : Operand) (args : Array Operand) (tys : Array TypeId) (f : FuncId) (as : List A2) (ks : List Nat) (R : Res → List D → Prop) (ho : o.op = .call { callee := .value fx, args, argTypes := tys })
      (hfx : fx = .func f) (hx : ToLs τ 0 none (args.toList.map τ.val) as ks)
      (hc : LContract P f as none R) (hr : ∀ r xs, R r xs → ∃ s al, ResE τ o.dst r s al ∧ E { s, sh := ks, al })
  | mcall (fx : Operand) (args : Array Operand) (tys : Array TypeId) (f : FuncId) (as : List A2) (ks : List Nat) (k d : Nat) (A B : Arr) (rest : List Value) (ho : o.op = .call { callee := .value fx, args, argTypes := tys })
      (hfx : fx = .func f) (hx : ToLs τ k (some A) (args.toList.map τ.val) as ks) (hA : τ.c k = some A) (hsh : (τ.shares ks).sh k = false) (hdst : o.dst = some d) (hu : τ.us d = false)
      (hc : MContract P f as A B rest) (hE : E { s := mvS d B.xs.length rest, sh := ks, al := some (d, B), ki := some k })
end Go.DL

namespace Go.DL
open Go.RowKit
section
variable {X : Env} {w0 : World} {M0 : Mem} {n : Nat} {τ : Ab} {ac : Act} {w : World} {M : Mem} {γ : Nat → Value} {P : Program} {T : Tys}

theorem wp_value {o : Oper} {K : Act → World → Prop} {Q : Exit → Act → World → Prop} {v : Value} {w' : World} (h : (execOp ac.eval o).run P w = .ok (.value v) w') (hK : K (ac.put o.dst v) w') : o.wp P ac w K Q := by
  unfold Oper.wp
  rw [h]
  exact hK
theorem wp_skip' {o : Oper} {K : Act → World → Prop} {Q : Exit → Act → World → Prop} {w' : World} (h : (execOp ac.eval o).run P w = .ok .skip w') (hK : K (ac.put o.dst undef) w') : o.wp P ac w K Q := by
  unfold Oper.wp
  rw [h]
  exact hK

theorem eff_plain (τ : Ab) (dst : Option Nat) (s : S) : τ.eff dst { s } = τ.put dst s := rfl
theorem eff_sh (τ : Ab) (dst : Option Nat) (s : S) (ks : List Nat) : τ.eff dst { s, sh := ks } = (τ.shares ks).put dst s := rfl
theorem eff_al (τ : Ab) (dst : Option Nat) (s : S) (ks : List Nat) (d : Nat) (A : Arr) : τ.eff dst { s, sh := ks, al := some (d, A) } = ((τ.shares ks).al d A).put dst s := rfl

theorem Sim.of (h : SimW X w0 M0 n τ ac w M γ) : Sim X w0 M0 n τ ac w := ⟨M, γ, h⟩

/-- a new block of one element -/
theorem al_one (h : SimW X w0 M0 n τ ac w M γ) {t : TypeId} {y : D} {v : Value} {d : Nat} (hu : τ.us d = false) (hdn : d < n) (hr : Rep M y v) (hw : 0 < y.width) {dst : Option Nat} (hd : ∀ d, dst = some d → d < n) :
    SimW X w0 M0 n ((τ.al d ⟨t, y.width, [y]⟩).put dst (.ae d 0)) (ac.put dst (.pointer (some ⟨w.heap.size, 0, none⟩))) (w.alloc (.cells v.cells t)) M (upd γ d (.slice (some ⟨w.heap.size, 0, none⟩) 1 1)) := by
  have h1 := h.alNew (A := ⟨t, y.width, [y]⟩) v.cells.toList hu hdn (cellsOK_one hr) hw (by simp [maxLen])
  refine SimW.put (by simpa using h1) hd ⟨by simp [Ab.al], fun A hA => ?_⟩
  have e : A = ⟨t, y.width, [y]⟩ := by simpa [Ab.al] using hA.symm
  subst e
  exact ⟨by simp, w.heap.size, by simp [upd, Value.ownBlock], by simp⟩

theorem ownBlock_live (h : SimW X w0 M0 n τ ac w M γ) {k : Nat} {A : Arr} (hA : τ.c k = some A) : (γ k = .slice none 0 0 ∧ A.xs = []) ∨ ∃ g cap, γ k = .slice (some ⟨g, 0, none⟩) A.xs.length cap ∧ A.xs.length ≤ cap ∧ cap ≤ maxLen := by
  obtain ⟨_, ⟨⟨cs, hown, _, _⟩, _, _⟩⟩ := h.ow k A hA
  rcases own_form hown with ⟨h1, h2⟩ | ⟨g, cap, h1, h2, h3⟩
  · exact .inl ⟨h1, List.eq_nil_of_length_eq_zero h2⟩
  · exact .inr ⟨g, cap, h1, h2, h3⟩

theorem run_load_cell {t : TypeId} {ty : Ty} (hT : TyOK P t ty) {y : D} (hf : LoadFit ty y) (hy : y.isCell = true) {ad : Addr} {v : Value} (hv : w.cell? ad = some v) :
    (Instr.loadAt t (.pointer (some ad))).run P w = .ok v w := by
  have hna : ty.isSt = false := by cases ty <;> first | rfl | (cases y <;> first | exact hf.elim | cases hy)
  simp only [Instr.loadAt, Instr.sureAddr, Sem.run_bind, Sem.run_pure, Result.andThen_ok, loadVar, run_isAgg hT, hna, Bool.false_eq_true, if_false, run_load, hv]

theorem run_load_agg {t : TypeId} {ty : Ty} (hT : TyOK P t ty) {fs : List D} (hf : LoadFit ty (.agg fs)) {ad : Addr} {cs : List Value} (hl : cs.length = fs.length) (hv : ∀ j v, cs[j]? = some v → w.cell? (ad.add j) = some v) :
    (Instr.loadAt t (.pointer (some ad))).run P w = .ok (.agg cs.toArray) w := by
  cases ty with
  | st Fs =>
    have hl2 : Fs.length = fs.length := hf
    have hr := run_loadCells_list (P := P) w ad cs hv
    simp only [Instr.loadAt, Instr.sureAddr, Sem.run_bind, Sem.run_pure, Result.andThen_ok, loadVar, run_isAgg hT, Ty.isSt, if_true, run_sizeOf hT, Ty.width, hl2, ← hl, hr]
  | _ => exact hf.elim

theorem rep_agg_list {M : Mem} {fs : List D} {cs : List Value} (hl : cs.length = fs.length) (h : ∀ (i : Nat) (f : D), fs[i]? = some f → f.isCell = true ∧ ∃ v, cs[i]? = some v ∧ Rep M f v) : Rep M (.agg fs) (.agg cs.toArray) := by
  refine .agg fs cs.toArray (by simpa using hl) (fun f hf => ?_) (fun j f hj => ?_)
  · obtain ⟨j, hj⟩ := List.getElem?_of_mem hf
    exact (h j f hj).1
  · obtain ⟨_, v, h1, h2⟩ := h j f hj
    have : cs.toArray.getD j undef = v := by simp [h1]
    rw [this]
    exact h2

theorem loadAny {t : TypeId} {ty : Ty} (hT : TyOK P t ty) {y : D} (hf : LoadFit ty y) {ad : Addr} (hc : y.isCell = true → ∃ v, w.cell? ad = some v ∧ Rep M y v)
    (ha : ∀ fs, y = .agg fs → ∀ (i : Nat) (f : D), fs[i]? = some f → f.isCell = true ∧ ∃ v, w.cell? (ad.add i) = some v ∧ Rep M f v) :
    ∃ v, (Instr.loadAt t (.pointer (some ad))).run P w = .ok v w ∧ Rep M y v := by
  cases y with
  | agg fs =>
    let cs : List Value := (List.range fs.length).map fun i => (w.cell? (ad.add i)).getD undef
    have hl : cs.length = fs.length := by simp [cs]
    have hget : ∀ i, i < fs.length → cs[i]? = some ((w.cell? (ad.add i)).getD undef) := fun i hi => by simp [cs, hi]
    refine ⟨.agg cs.toArray, run_load_agg hT hf hl (fun j v hv => ?_), rep_agg_list hl (fun i f hi => ?_)⟩
    · have hj : j < fs.length := by rw [← hl]; exact (List.getElem?_eq_some_iff.1 hv).1
      obtain ⟨_, u, h1, _⟩ := ha fs rfl j _ (List.getElem?_eq_getElem hj)
      rw [hget j hj, h1] at hv
      rw [h1]
      simpa using hv
    · obtain ⟨h0, u, h1, h2⟩ := ha fs rfl i f hi
      refine ⟨h0, u, ?_, h2⟩
      rw [hget i (List.getElem?_eq_some_iff.1 hi).1, h1]
      rfl
  | sc u =>
    obtain ⟨v, h1, h2⟩ := hc rfl
    exact ⟨v, run_load_cell hT hf rfl h1, h2⟩
  | sl xs =>
    obtain ⟨v, h1, h2⟩ := hc rfl
    exact ⟨v, run_load_cell hT hf rfl h1, h2⟩
  | ref k m => obtain ⟨v, h1, h2⟩ := hc rfl; cases h2
  | own e sz xs => obtain ⟨v, h1, h2⟩ := hc rfl; cases h2
  | jk => obtain ⟨v, h1, h2⟩ := hc rfl; cases h2

theorem SimW.toAs {τ0 : Ab} {ss : List S} {xs : List A1} {ks : List Nat} (hd : ToAs τ0 ss xs ks) : ∀ {τ : Ab} {M : Mem} {vs : Nat → Value}, τ.c = τ0.c → SimW X w0 M0 n τ ac w M γ →
    (∀ (j : Nat) (s : S), ss[j]? = some s → RepS M τ γ s (vs j)) →
    ∃ M', SimW X w0 M0 n (τ.shares ks) ac w M' γ ∧ Mem.le M M' ∧ xs.length = ss.length ∧ ∀ (j : Nat) (x : A1), xs[j]? = some x → RepA M' x (vs j) := by
  induction hd with
  | nil => exact fun hc h hv => ⟨_, h, Mem.le_refl _, rfl, fun j x hx => by simp at hx⟩
  | @cons s x k ss xs ks h0 t ih =>
    intro τ M vs hc h hv
    have h00 := h0.of_c hc
    have : ∃ M1, SimW X w0 M0 n (τ.shares k) ac w M1 γ ∧ Mem.le M M1 ∧ RepA M1 x (vs 0) := by
      cases h00 with
      | d hd => exact h.toD hd (hv 0 _ rfl)
      | fn f => exact ⟨M, h, Mem.le_refl M, hv 0 _ rfl⟩
    obtain ⟨M1, h1, l1, r1⟩ := this
    obtain ⟨e1, e2, e3⟩ := shares_c τ k
    obtain ⟨M2, h2, l2, hl, r2⟩ := ih (vs := fun j => vs (j + 1)) (by rw [e1, hc]) h1 (fun j s' hs => (hv (j + 1) s' (by simpa using hs)).goes l1 (Goes.shares τ γ k))
    refine ⟨M2, by rw [shares_append]; exact h2, Mem.le_trans l1 l2, by simp [hl], fun j y hy => ?_⟩
    cases j with
    | zero => simp at hy; subst hy; exact r1.mono l2
    | succ j => exact r2 j y (by simpa using hy)

theorem run_call {o : Oper} {fx : Operand} {args : Array Operand} {tys : Array TypeId} {f : FuncId} (ho : o.op = .call { callee := .value fx, args, argTypes := tys }) (hv : ac.eval fx = .func (.func f) #[] #[]) (he : Enters P f) :
    (execOp ac.eval o).run P w = .ok (.enter f (args.map ac.eval)) w := by
  simp only [execOp, ho, resolve, hv, Deferred.ofValue, Sem.run_bind, Sem.run_pure, Result.andThen_ok, invoke]
  simpa using he (args.map ac.eval) w

theorem wp_call {o : Oper} {f : FuncId} {vs : Array Value} {K : Act → World → Prop} {Q : Exit → Act → World → Prop} (h : (execOp ac.eval o).run P w = .ok (.enter f vs) w)
    {r : Res} (hc : Calls P f vs w (After w M r)) (hK : ∀ v w', After w M r (.returned v) w' → K (ac.put o.dst v) w') : o.wp P ac w K Q := by
  unfold Oper.wp
  rw [h]
  refine hc.mono fun e w' ha => ?_
  obtain ⟨v, M', he, rest⟩ := ha
  subst he
  exact hK v w' ⟨v, M', rfl, rest⟩

theorem res_put {w' : World} {M' : Mem} {r : Res} {dst : Option Nat} {s : S} {al : Option (Nat × Arr)} {v : Value} (h : SimW X w0 M0 n τ ac w M γ) (hd : ∀ d, dst = some d → d < n) (hr : ResE τ dst r s al)
    (hb : Below w.heap.size w w') (hle : Mem.le M M') (hmw : ∀ a u, M' a = some u → w'.cell? a = some u) (hmn : ∀ a u, M' a = some u → M a = some u ∨ w.heap.size ≤ a.block) (hv : RepRes w w' M' r v) :
    Sim X w0 M0 n ((τ.alO al).put dst s) (ac.put dst v) w' := by
  cases hr with
  | d x => exact ⟨M', γ, (h.call hb hle hmw hmn).put hd hv⟩
  | unit => exact ⟨M', γ, (h.call hb hle hmw hmn).put hd trivial⟩
  | own A d h1 hu =>
    obtain ⟨hpos, cs, hown, hcs, hnm⟩ := hv
    refine ⟨M', _, (h.al hu (hd d h1) hb hle hmw hmn cs hown hcs hpos hnm).put hd ⟨⟨by simp [Ab.al], own_len hown⟩, fun A' hA' => ?_⟩⟩
    have e : A' = A := by simpa [Ab.al] using hA'.symm
    subst e
    refine ⟨Nat.le_refl _, ?_⟩
    rcases own_form hown with ⟨e, h0⟩ | ⟨g, cap, e, _, _⟩
    · rw [e, h0]; simp [upd, cutV]
    · rw [e]; simp [upd, cutV]
  | ptr A d h1 hu =>
    obtain ⟨hpos, hlen, u, g, hug, hve, cs, hown, hcs, hnm⟩ := hv
    refine ⟨M', _, (h.al hu (hd d h1) hb hle hmw hmn cs hown hcs hpos (fun g' hg' off sp => by rw [hug] at hg'; cases hg'; exact hnm off sp)).put hd ⟨by simp [Ab.al], fun A' hA' => ?_⟩⟩
    have e : A' = A := by simpa [Ab.al] using hA'.symm
    subst e
    exact ⟨hlen, g, by simpa [upd] using hug, by rw [hve]; simp⟩
  | tupd x rest =>
    obtain ⟨vs, e, hsz, h0, hrest⟩ := hv
    refine ⟨M', γ, (h.call hb hle hmw hmn).put hd ⟨vs, e, by simp [hsz], fun j s hs => ?_⟩⟩
    cases j with
    | zero => simp at hs; subst hs; exact h0
    | succ j =>
      rw [List.getElem?_cons_succ, List.getElem?_map] at hs
      cases hx : rest[j]? with
      | none => simp [hx] at hs
      | some y => simp [hx] at hs; subst hs; exact hrest j y hx
  | tupo A rest d h1 hu =>
    obtain ⟨vs, e, hsz, ⟨hpos, cs, hown, hcs, hnm⟩, hrest⟩ := hv
    refine ⟨M', _, (h.al hu (hd d h1) hb hle hmw hmn cs hown hcs hpos hnm).put hd ⟨vs, e, by simp [hsz], fun j s hs => ?_⟩⟩
    cases j with
    | zero =>
      simp at hs; subst hs
      refine ⟨⟨by simp [Ab.al], own_len hown⟩, fun A' hA' => ?_⟩
      have e : A' = A := by simpa [Ab.al] using hA'.symm
      subst e
      refine ⟨Nat.le_refl _, ?_⟩
      rcases own_form hown with ⟨e, h0⟩ | ⟨g, cap, e, _, _⟩
      · rw [e, h0]; simp [upd, cutV]
      · rw [e]; simp [upd, cutV]
    | succ j =>
      rw [List.getElem?_cons_succ, List.getElem?_map] at hs
      cases hx : rest[j]? with
      | none => simp [hx] at hs
      | some y => simp [hx] at hs; subst hs; exact hrest j y hx

theorem flat_put {w' : World} {M' : Mem} {r : Res} {dst : Option Nat} {s : S} {v : Value} (h : SimW X w0 M0 n τ ac w M γ) (hd : ∀ d, dst = some d → d < n) (hr : FlatRes r s)
    (hb : Below w.heap.size w w') (hv : RepRes w w' M' r v) : Sim X w0 M0 n (τ.put dst s) (ac.put dst v) w' := by
  have hw : SimW X w0 M0 n τ ac w' M γ := h.call hb (Mem.le_refl M) (fun a u hu => by
    have h1 := h.mw a u hu
    rw [hb.cell (block_lt_of_cell h1)]; exact h1) (fun _ _ hu => .inl hu)
  have sc : ∀ {u v : Value}, Rep M' (.sc u) v → Rep M (.sc u) v := fun {u v} hr => by cases hr with | sc _ h => exact .sc _ h
  cases hr with
  | d u => exact ⟨M, γ, hw.put hd (sc hv)⟩
  | tup u rest =>
    obtain ⟨vs, e, hsz, h0, hrest⟩ := hv
    refine ⟨M, γ, hw.put hd ⟨vs, e, by simpa using hsz, fun j s hs => ?_⟩⟩
    cases j with
    | zero => simp at hs; subst hs; exact sc h0
    | succ j =>
      rw [List.getElem?_cons_succ, List.getElem?_map] at hs
      cases hx : rest[j]? with
      | none => simp [hx] at hs
      | some y => simp [hx] at hs; subst hs; exact sc (hrest j _ (by simp [hx]))

theorem fr_put {w' : World} {M' : Mem} {r : Res} {dst : Option Nat} {s : S} {p : Nat × Arr} {v : Value} (h : SimW X w0 M0 n τ ac w M γ) (hd : ∀ d, dst = some d → d < n) (hr : FrRes τ dst r s p)
    (hb : Below w.heap.size w w') (hv : RepRes w w' M' r v) : Sim X w0 M0 n ((τ.al p.1 p.2).put dst s) (ac.put dst v) w' := by
  have hmw : ∀ a u, M a = some u → w'.cell? a = some u := fun a u hu => by
    have h1 := h.mw a u hu
    rw [hb.cell (block_lt_of_cell h1)]; exact h1
  have em : Mem.le (fun _ => none) M := fun _ _ h => by cases h
  have sc : ∀ {u v : Value}, Rep M' (.sc u) v → Rep M (.sc u) v := fun {u v} hr => by cases hr with | sc _ h => exact .sc _ h
  cases hr with
  | one A d h1 hu =>
    obtain ⟨hpos, cs, hown, hcs⟩ := hv
    refine ⟨M, _, (h.al hu (hd d h1) hb (Mem.le_refl M) hmw (fun _ _ h => .inl h) cs hown (hcs.mono em) hpos (fun g hg off sp => no_mem_new h (hown.lt g hg).1 off sp)).put hd ⟨⟨by simp [Ab.al], own_len hown⟩, fun A' hA' => ?_⟩⟩
    have e : A' = A := by simpa [Ab.al] using hA'.symm
    subst e
    refine ⟨Nat.le_refl _, ?_⟩
    rcases own_form hown with ⟨e, h0⟩ | ⟨g, cap, e, _, _⟩
    · rw [e, h0]; simp [upd, cutV]
    · rw [e]; simp [upd, cutV]
  | tup A rest d h1 hu =>
    obtain ⟨vs, e, hsz, ⟨hpos, cs, hown, hcs⟩, hrest⟩ := hv
    refine ⟨M, _, (h.al hu (hd d h1) hb (Mem.le_refl M) hmw (fun _ _ h => .inl h) cs hown (hcs.mono em) hpos (fun g hg off sp => no_mem_new h (hown.lt g hg).1 off sp)).put hd ⟨vs, e, by simpa using hsz, fun j s hs => ?_⟩⟩
    cases j with
    | zero =>
      simp at hs; subst hs
      refine ⟨⟨by simp [Ab.al], own_len hown⟩, fun A' hA' => ?_⟩
      have e : A' = A := by simpa [Ab.al] using hA'.symm
      subst e
      refine ⟨Nat.le_refl _, ?_⟩
      rcases own_form hown with ⟨e, h0⟩ | ⟨g, cap, e, _, _⟩
      · rw [e, h0]; simp [upd, cutV]
      · rw [e]; simp [upd, cutV]
    | succ j =>
      rw [List.getElem?_cons_succ, List.getElem?_map] at hs
      cases hx : rest[j]? with
      | none => simp [hx] at hs
      | some y => simp [hx] at hs; subst hs; exact sc (hrest j _ (by simp [hx]))

theorem ResE.us {τ τ' : Ab} (hu : τ'.us = τ.us) {dst : Option Nat} {r : Res} {s : S} {al : Option (Nat × Arr)} (h : ResE τ dst r s al) : ResE τ' dst r s al := by
  cases h with
  | d x => exact .d x
  | unit => exact .unit
  | own A d h1 h2 => exact .own A d h1 (by rw [hu]; exact h2)
  | ptr A d h1 h2 => exact .ptr A d h1 (by rw [hu]; exact h2)
  | tupd x rest => exact .tupd x rest
  | tupo A rest d h1 h2 => exact .tupo A rest d h1 (by rw [hu]; exact h2)

theorem zip_fst {α β : Type} (parts : List (Nat × α)) (ρ : α → β) (ds : List D) (xs : List D) :
    ((parts.map fun p => (p.1, ρ p.2)).zip ds).foldl (fun xs q => xs.set q.1.1 q.2) xs = ((parts.map (·.1)).zip ds).foldl (fun xs q => xs.set q.1 q.2) xs := by
  induction parts generalizing ds xs with
  | nil => rfl
  | cons p ps ih =>
    cases ds with
    | nil => rfl
    | cons d ds => exact ih ds _

theorem foldl_set_len (l : List (Nat × D)) (xs : List D) : (l.foldl (fun xs q => xs.set q.1 q.2) xs).length = xs.length := by
  induction l generalizing xs with
  | nil => rfl
  | cons p l ih => simp [ih]

theorem foldl_set_cells (l : List (Nat × D)) (xs : List D) (hx : ∀ x ∈ xs, x.isCell = true) (hl : ∀ q ∈ l, q.2.isCell = true) : ∀ x ∈ l.foldl (fun xs q => xs.set q.1 q.2) xs, x.isCell = true := by
  induction l generalizing xs with
  | nil => exact hx
  | cons p l ih =>
    refine ih _ (fun x hm => ?_) (fun q hq => hl q (List.mem_cons_of_mem _ hq))
    rcases List.mem_or_eq_of_mem_set hm with h | h
    · exact hx x h
    · rw [h]; exact hl p List.mem_cons_self

theorem places_ok (l : List Field) (h : ∀ f ∈ l, ∃ i, P.info? f.type = some i ∧ i.size = 1) : l.mapM (fun f => (P.info? f.type).map fun i => (f.offset, i.size)) = some (l.map fun f => (f.offset, 1)) := by
  induction l with
  | nil => rfl
  | cons f l ih =>
    obtain ⟨i, hi, h1⟩ := h f List.mem_cons_self
    rw [List.mapM_cons, ih fun g hg => h g (List.mem_cons_of_mem _ hg)]
    simp [hi, h1]

theorem cellsOK_drop {sz l : Nat} {xs : List D} {cs : List Value} (h : CellsOK M sz xs cs) : CellsOK M sz (xs.drop l) (cs.drop (l * sz)) := by
  refine ⟨by rw [List.length_drop, List.length_drop, h.1, Nat.sub_mul], fun j x hx => ?_⟩
  rw [List.getElem?_drop] at hx
  obtain ⟨hw, e1, e2⟩ := h.2 _ x hx
  have ej : (l + j) * sz = l * sz + j * sz := Nat.add_mul ..
  refine ⟨hw, fun hc => ?_, fun fs hfs i f hi => ?_⟩
  · obtain ⟨v, a, b⟩ := e1 hc
    exact ⟨v, by rw [List.getElem?_drop, ← ej]; exact a, b⟩
  · obtain ⟨c, v, a, b⟩ := e2 fs hfs i f hi
    exact ⟨c, v, by rw [List.getElem?_drop, ← Nat.add_assoc, ← ej]; exact a, b⟩
theorem addr_addN (g o j : Nat) : (⟨g, o, none⟩ : Addr).add j = ⟨g, o + j, none⟩ := by unfold Addr.add; split <;> simp_all

/-- The cells that an operand of an append holds, where they stand. -/
theorem cont_at (h : SimW X w0 M0 n τ ac w M γ) {s : S} {ys : List D} (hc : ToCont τ s ys) {v : Value} (hv : RepS M τ γ s v) {sz : Nat} (hw : ∀ y ∈ ys, y.width = sz) :
    ∃ a cap news, v = .slice a ys.length cap ∧ CellsOK M sz ys news ∧ ((a = none ∧ ys = []) ∨ ∃ ad, a = some ad ∧ ∀ j u, news[j]? = some u → w.cell? (ad.add j) = some u) := by
  cases hc with
  | d xs =>
    cases hv with
    | nil a cap => 
      refine ⟨a, cap, [], rfl, ⟨by simp, fun j x hx => by simp at hx⟩, ?_⟩
      cases a with
      | none => exact .inl ⟨rfl, rfl⟩
      | some ad => exact .inr ⟨ad, rfl, fun j u hu => by simp at hu⟩
    | sl _ ad cap sz' c hcap hsp hw' hm hs hc ha =>
      by_cases h0 : ys.length = 0
      · have e := List.eq_nil_of_length_eq_zero h0
        subst e
        exact ⟨some ad, cap, [], rfl, ⟨by simp, fun j x hx => by simp at hx⟩, .inr ⟨ad, rfl, fun j u hu => by simp at hu⟩⟩
      · have hsz : sz' = sz := by
          have h3 := List.getElem_mem (l := ys) (n := 0) (by omega)
          rw [← hw _ h3, hw' _ h3]
        subst hsz
        let news := (List.range (ys.length * sz')).map c
        have hget : ∀ j, j < ys.length * sz' → news[j]? = some (c j) := fun j hj => by simp [news, hj]
        refine ⟨some ad, cap, news, rfl, ⟨by simp [news], fun j x hx => ⟨hw' x (List.mem_of_getElem? hx), fun hcx => ?_, fun fs hfs i f hi => ?_⟩⟩, .inr ⟨ad, rfl, fun j u hu => ?_⟩⟩
        · have hj := (List.getElem?_eq_some_iff.1 hx).1
          have h1 := mul_succ_le (sz := sz') hj
          have h2 : sz' = 1 := by rw [← hw' x (List.mem_of_getElem? hx)]; exact width_one hcx
          exact ⟨c (j * sz'), hget _ (by omega), hs j x hx hcx⟩
        · subst hfs
          have hj := (List.getElem?_eq_some_iff.1 hx).1
          have h1 := mul_succ_le (sz := sz') hj
          have h2 : fs.length = sz' := hw' _ (List.mem_of_getElem? hx)
          have h3 := (List.getElem?_eq_some_iff.1 hi).1
          exact ⟨‹∀ (j : Nat) (fs : List D), ys[j]? = some (D.agg fs) → ∀ f, f ∈ fs → f.isCell = true› j fs hx f (List.mem_of_getElem? hi), c (j * sz' + i), hget _ (by omega), ha j fs hx i f hi⟩
        · have hj : j < ys.length * sz' := by have := (List.getElem?_eq_some_iff.1 hu).1; simpa [news] using this
          rw [hget j hj] at hu
          have e := Option.some.inj hu
          subst e
          exact h.mw _ _ (hm j hj)
  | nil => exact ⟨none, 0, [], hv, ⟨by simp, fun j x hx => by simp at hx⟩, .inl ⟨rfl, rfl⟩⟩
  | av k m A hA =>
    obtain ⟨hm, e⟩ := hv.2 A hA
    have hlen : (A.xs.take m).length = m := by simp; omega
    rcases ownBlock_live h hA with ⟨hg, hn⟩ | ⟨g, cap, hg, hnc, hcm⟩
    · have hm0 : m = 0 := by rw [hn] at hm; simpa using hm
      subst hm0
      refine ⟨none, 0, [], by rw [e, hg]; simp [cutV], ⟨by simp, fun j x hx => by simp at hx⟩, .inl ⟨rfl, by simp⟩⟩
    · obtain ⟨cs, hcs, hcell⟩ := h.cells hA (g := g) (by rw [hg]; rfl)
      have hk := cellsOK_take hcs hm
      by_cases h0 : m = 0
      · subst h0
        exact ⟨some ⟨g, 0, none⟩, cap, [], by rw [e, hg]; simp [cutV], ⟨by simp, fun j x hx => by simp at hx⟩, .inr ⟨_, rfl, fun j u hu => by simp at hu⟩⟩
      · have hsz : A.sz = sz := by
          have h3 : A.xs[0]? = some (A.xs[0]'(by omega)) := List.getElem?_eq_getElem (by omega)
          have h4 : (A.xs.take m)[0]? = some (A.xs[0]'(by omega)) := by rw [List.getElem?_take, if_pos (by omega), h3]
          rw [← (hcs.2 0 _ h3).1]
          exact hw _ (List.mem_of_getElem? h4)
        rw [hsz] at hk
        refine ⟨some ⟨g, 0, none⟩, cap, _, by rw [e, hg, hlen]; simp [cutV], hk, .inr ⟨_, rfl, fun j u hu => ?_⟩⟩
        rw [List.getElem?_take] at hu
        split at hu
        · rw [addr_add0]; exact (hcell j u hu).1
        · cases hu
  | aw k l m A hA =>
    obtain ⟨⟨hlm, hmA⟩, e⟩ := hv.2 A hA
    obtain ⟨a0, c0, hl0⟩ := hv.1.2
    have hlen : ((A.xs.take m).drop l).length = m - l := by simp; omega
    have empty : m = l → ∃ a cap news, v = .slice a ((A.xs.take m).drop l).length cap ∧ CellsOK M sz ((A.xs.take m).drop l) news ∧ ((a = none ∧ (A.xs.take m).drop l = []) ∨ ∃ ad, a = some ad ∧ ∀ j u, news[j]? = some u → w.cell? (ad.add j) = some u) := fun e => by
      have e0 : (A.xs.take m).drop l = [] := List.eq_nil_of_length_eq_zero (by omega)
      rw [e0]
      refine ⟨a0, c0, [], by rw [hl0, e, Nat.sub_self]; rfl, ⟨by simp, fun j x hx => by simp at hx⟩, ?_⟩
      cases a0 with
      | none => exact .inl ⟨rfl, rfl⟩
      | some ad => exact .inr ⟨ad, rfl, fun j u hu => by simp at hu⟩
    rcases e with e | ⟨g, cap, hg, e⟩
    · exact empty e
    · by_cases h0 : m = l
      · exact empty h0
      · obtain ⟨cs, hcs, hcell⟩ := h.cells hA hg
        have hk := cellsOK_drop (l := l) (cellsOK_take hcs hmA)
        have hsz : A.sz = sz := by
          have h3 : A.xs[l]? = some (A.xs[l]'(by omega)) := List.getElem?_eq_getElem (by omega)
          have h4 : ((A.xs.take m).drop l)[0]? = some (A.xs[l]'(by omega)) := by rw [List.getElem?_drop, List.getElem?_take, if_pos (by omega), Nat.add_zero, h3]
          rw [← (hcs.2 l _ h3).1]
          exact hw _ (List.mem_of_getElem? h4)
        rw [hsz] at hk e
        refine ⟨some ⟨g, l * sz, none⟩, cap, _, by rw [e, hlen], hk, .inr ⟨_, rfl, fun j u hu => ?_⟩⟩
        rw [List.getElem?_drop, List.getElem?_take] at hu
        split at hu
        · rw [addr_addN]; exact (hcell _ u hu).1
        · cases hu

theorem TEff.sound (hT : TOK P T) {o : Oper} {e : Ef} (hd : ∀ d, o.dst = some d → d < n) (h : TEff P T o τ e) (hs : SimW X w0 M0 n τ ac w M γ) (Q : Exit → Act → World → Prop) :
    o.wp P ac w (fun ac' w' => Sim X w0 M0 n (τ.eff o.dst e) ac' w') Q := by
  cases h with
  | pure s h =>
    obtain ⟨v, h1, h2⟩ := h.sound hT hs
    exact wp_value h1 (.of (hs.put hd h2))
  | alloc t ty d ho hdst hu hm hw =>
    have hr := run_zero (hT _ hm) (P := P) w
    have h1 : (execOp ac.eval o).run P w = .ok (.value (.pointer (some ⟨w.heap.size, 0, none⟩))) (w.alloc (.cells ty.zeroV.cells t)) := by
      simp only at hr
      simp [execOp, ho, Instr.alloc, hr, newVar, newRow]
    have := al_one hs (t := t) hu (hd d hdst) (ty.zero_rep M) (by rw [ty.zero_width]; exact hw) hd
    rw [ty.zero_width] at this
    exact wp_value h1 (.of this)
  | box t x y ks d ho hdst hu hx hw =>
    obtain ⟨M', h1, hle, hr⟩ := hs.toD hx (hs.val x)
    have hrun : (execOp ac.eval o).run P w = .ok (.value (.pointer (some ⟨w.heap.size, 0, none⟩))) (w.alloc (.cells (ac.eval x).cells t)) := by
      simp [execOp, ho, Instr.box, newVar, newRow]
    exact wp_value hrun (.of (al_one h1 (by rw [(shares_c τ ks).2.1]; exact hu) (hd d hdst) hr hw hd))
  | build t parts Fs ds ks ho hm hx hc hi =>
    obtain ⟨M', h1, hle, hl, hr⟩ := SimW.toDs hx rfl hs (vs := fun j => ac.eval ((parts.toList[j]?).map (·.2) |>.getD (.const undef))) (fun j s hj => by
      rw [List.getElem?_map] at hj
      cases hp : parts.toList[j]? with
      | none => simp [hp] at hj
      | some p => simp [hp] at hj; subst hj; simpa using hs.val p.2)
    have hz := cellsOK_one ((Ty.st Fs).zero_rep M')
    obtain ⟨fds, hun, hsz, hfs, _⟩ := (hT _ hm).und
    have hcells : CellsOK M' 1 (Fs.map F.zeroD) (Fs.map F.zeroV) := by
      refine ⟨by simp, fun j x hj => ?_⟩
      rw [List.getElem?_map] at hj
      cases hf : Fs[j]? with
      | none => simp [hf] at hj
      | some f =>
        simp [hf] at hj; subst hj
        refine ⟨width_one (F.zero_rep M' f).2, fun _ => ⟨f.zeroV, by simp [hf], (F.zero_rep M' f).1⟩, fun fs hfs => ?_⟩
        have := (F.zero_rep M' f).2
        rw [hfs] at this; cases this
    obtain ⟨cs', hfill, hcs'⟩ := fill_ok (M := M') (sz := 1) (place := fun i => (fds.map fun f => (f.offset, 1))[i]?) (parts.toList.map fun p => (p.1, ac.eval p.2)) ds (Fs.map F.zeroD) (Fs.map F.zeroV).toArray (by simpa using hcells)
      (by rw [hl]; simp) (fun j p d hp hdj => by
        rw [List.getElem?_map] at hp
        cases hq : parts.toList[j]? with
        | none => simp [hq] at hp
        | some q =>
          simp [hq] at hp; subst hp
          have hil := hi q (List.mem_of_getElem? hq)
          obtain ⟨fd, hfd, hoff, _⟩ := hfs q.1 _ (List.getElem?_eq_getElem hil)
          refine ⟨by simp [hfd, hoff], by simpa using hil, width_one (hc d (List.mem_of_getElem? hdj)), ?_⟩
          have := hr j d hdj
          simpa [hq] using this)
    have hall : ∀ f ∈ fds.toList, ∃ i, P.info? f.type = some i ∧ i.size = 1 := fun f hf => by
      obtain ⟨j, hj⟩ := List.getElem?_of_mem hf
      have hjl : j < Fs.length := by have := (List.getElem?_eq_some_iff.1 hj).1; simpa [hsz] using this
      obtain ⟨fd, hfd, _, _, h3, _⟩ := hfs j _ (List.getElem?_eq_getElem hjl)
      have e : fd = f := by
        have h4 : fds[j]? = some f := by simpa using hj
        rw [hfd] at h4
        exact Option.some.inj h4
      subst e
      exact h3
    have hpl : (fds.mapM fun f => Prod.mk f.offset <$> sizeOf f.type).run P w = .ok (fds.map fun f => (f.offset, 1)) w := by
      have h2 := run_places (P := P) w fds.toList _ (places_ok fds.toList hall)
      rw [Array.mapM_eq_mapM_toList, Sem.run_map, h2]
      simp only [Result.andThen_ok]
      congr 1
      apply Array.ext'
      simp
    have hzr := run_zero (hT _ hm) (P := P) w
    simp only at hzr
    have hrun : (execOp ac.eval o).run P w = .ok (.value (.agg cs')) w := by
      simp only [execOp, ho, Instr.build, bind_pure_comp, Sem.run_bind, Sem.run_map, hzr, Result.andThen_ok, run_underlying hun, hpl]
      have e : (parts.map fun x => match x with | (i, x) => (i, ac.eval x)).toList = parts.toList.map fun p => (p.1, ac.eval p.2) := by simp
      rw [e]
      have e2 : (Ty.st Fs).zeroV.cells = (Fs.map F.zeroV).toArray := rfl
      rw [e2]
      rw [hfill]
      rfl
    refine wp_value hrun (.of (h1.put hd ?_))
    rw [zip_fst (ρ := ac.eval)] at hcs'
    have hlen := hcs'.1
    rw [Nat.mul_one] at hlen
    have := rep_agg_list (M := M') hlen (fun i f hif => by
      obtain ⟨hw1, hel⟩ := hcs'.2 i f hif
      have hcell : f.isCell = true := foldl_set_cells _ _ (fun x hx => by obtain ⟨g, _, rfl⟩ := List.mem_map.1 hx; exact (F.zero_rep M' g).2) (fun q hq => hc _ (List.of_mem_zip hq).2) f (List.mem_of_getElem? hif)
      obtain ⟨v, a, b⟩ := hel.1 hcell
      exact ⟨hcell, v, by simpa using a, b⟩)
    simpa [RepS] using this
  | buildSlice t len parts e ety ds ks d ho hdst hu hm hE hx hc hi hw hl24 =>
    obtain ⟨M', h1, hle, hl, hr⟩ := SimW.toDs hx rfl hs (vs := fun j => ac.eval ((parts.toList[j]?).map (·.2) |>.getD (.const undef))) (fun j s hj => by
      rw [List.getElem?_map] at hj
      cases hp : parts.toList[j]? with
      | none => simp [hp] at hj
      | some p => simp [hp] at hj; subst hj; simpa using hs.val p.2)
    have hu2 := (hT _ hm).und
    simp only at hu2
    obtain ⟨hzs, _, hze⟩ := (ety.zero_rep M').cells_one
    rw [ety.zero_width] at hzs
    have hz0 : 0 < ety.zeroV.cells.size := by omega
    have hcells := cellsOK_replicate (n := len) (us := ety.zeroV.cells.toList) (by rw [Array.length_toList, hzs, ety.zero_width]) hze
    rw [ety.zero_width] at hcells
    have hmade : (madeCells ety.zeroV.cells (len * ety.width)).toList = (List.replicate len ety.zeroV.cells.toList).flatten := by
      rw [← hzs]; exact toList_madeCells _ _ hz0
    rw [← hmade] at hcells
    obtain ⟨cs', hfill, hcs'⟩ := fill_ok (M := M') (sz := ety.width) (place := fun i => some (i * ety.width, ety.width)) (parts.toList.map fun p => (p.1, ac.eval p.2)) ds (List.replicate len ety.zeroD) _ hcells
      (by rw [hl]; simp) (fun j p d hp hdj => by
        rw [List.getElem?_map] at hp
        cases hq : parts.toList[j]? with
        | none => simp [hq] at hp
        | some q =>
          simp [hq] at hp; subst hp
          refine ⟨rfl, by simpa using hi q (List.mem_of_getElem? hq), hc d (List.mem_of_getElem? hdj), ?_⟩
          have := hr j d hdj
          simpa [hq] using this)
    rw [zip_fst (ρ := ac.eval)] at hcs'
    have hrun : (execOp ac.eval o).run P w = .ok (.value (.slice (some ⟨w.heap.size, 0, none⟩) len len)) (w.alloc (.cells cs' e)) := by
      have hzr := run_zero (hT _ hE) (P := P) w
      have hsr := run_sizeOf (hT _ hE) (P := P) w
      simp only at hzr hsr
      simp only [execOp, ho, Instr.buildSlice, bind_pure_comp, Sem.run_bind, Sem.run_map, Result.andThen_ok, run_underlying hu2, hsr]
      have eparts : (parts.map fun x => match x with | (i, x) => (i, ac.eval x)).toList = parts.toList.map fun p => (p.1, ac.eval p.2) := by simp
      rw [eparts, if_neg (by omega)]
      by_cases h0 : len * ety.width = 0
      · have hm0 : (Array.range (len * ety.width)).map (fun x => (#[] : Array Value)[x % (#[] : Array Value).size]!) = madeCells ety.zeroV.cells (len * ety.width) := by rw [h0]; simp [madeCells, Array.range_zero']
        rw [if_pos h0]
        simp only [Sem.run_bind, Sem.run_pure, Result.andThen_ok]
        rw [hm0, hfill]
        simp [newRow]
      · rw [if_neg h0]
        simp only [Sem.run_bind, hzr, Sem.run_pure, Result.andThen_ok]
        have hm0 : (Array.range (len * ety.width)).map (fun x => ety.zeroV.cells[x % ety.zeroV.cells.size]!) = madeCells ety.zeroV.cells (len * ety.width) := rfl
        rw [hm0, hfill]
        simp [newRow]
    have hlen : (((parts.toList.map (·.1)).zip ds).foldl (fun xs q => xs.set q.1 q.2) (List.replicate len ety.zeroD)).length = len := by rw [foldl_set_len]; simp
    have hnew := h1.alNew (k := d) (A := ⟨e, ety.width, ((parts.toList.map (·.1)).zip ds).foldl (fun xs q => xs.set q.1 q.2) (List.replicate len ety.zeroD)⟩) cs'.toList (by rw [(shares_c τ ks).2.1]; exact hu) (hd d hdst) hcs' hw
      (by simp only [hlen, maxLen]; have := Nat.le_mul_of_pos_right len hw; omega)
    simp only [hlen, Array.toArray_toList] at hnew
    exact wp_value hrun (.of (hnew.put hd ⟨⟨by simp [Ab.al], ⟨_, _, rfl⟩⟩, fun A hA => by
      have e : A = ⟨e, ety.width, ((parts.toList.map (·.1)).zip ds).foldl (fun xs q => xs.set q.1 q.2) (List.replicate len ety.zeroD)⟩ := by simpa [Ab.al] using hA.symm
      subst e
      exact ⟨Nat.le_of_eq hlen.symm, by simp [upd, cutV]⟩⟩))
  | makeSlice t x y m k k' e ety d ho hdst hu hm hE hx hy hm35 hw =>
    have e1 : ac.eval x = .int k (m : Int) := by have := hs.val x; rw [hx] at this; exact rep_sc this
    have e2 : ac.eval y = .int k' (m : Int) := by have := hs.val y; rw [hy] at this; exact rep_sc this
    have hu2 := (hT _ hm).und
    simp only at hu2
    obtain ⟨i, hi, his, hiz, hib⟩ := (hT _ hE).info
    simp only at hi his hiz
    obtain ⟨hzs, _, hze⟩ := (ety.zero_rep M).cells_one
    rw [ety.zero_width] at hzs
    have hbytes : (i.bytes : Int) * (m : Int) ≤ 281474976710656 := by
      have h3 : i.bytes * m ≤ 4096 * 34359738368 := Nat.mul_le_mul hib hm35
      have h4 : ((i.bytes * m : Nat) : Int) ≤ 281474976710656 := by omega
      rwa [Int.natCast_mul] at h4
    have hr := run_make (P := P) w t e i ety.zeroV hu2 hi hiz k k' (m : Int) (m : Int) (by omega) (Int.le_refl _) hbytes (by omega)
    simp only [Int.toNat_natCast, his] at hr
    have hrun : (execOp ac.eval o).run P w = .ok (.value (.slice (some ⟨w.heap.size, 0, none⟩) m m)) (w.alloc (.cells (madeCells ety.zeroV.cells (m * ety.width)) e)) := by
      simp only [execOp, ho, e1, e2, bind_pure_comp, Sem.run_map, hr, Result.andThen_ok]
    have hcells := cellsOK_replicate (M := M) (n := m) (us := ety.zeroV.cells.toList) (by rw [Array.length_toList, hzs, ety.zero_width]) hze
    rw [ety.zero_width] at hcells
    have hmade : (madeCells ety.zeroV.cells (m * ety.width)).toList = (List.replicate m ety.zeroV.cells.toList).flatten := by
      rw [← hzs]; exact toList_madeCells _ _ (by omega)
    rw [← hmade] at hcells
    have hnew := hs.alNew (k := d) (A := ⟨e, ety.width, List.replicate m ety.zeroD⟩) _ hu (hd d hdst) hcells hw (by simp [maxLen]; omega)
    simp only [Array.toArray_toList, List.length_replicate] at hnew
    exact wp_value hrun (.of (hnew.put hd ⟨⟨by simp [Ab.al], ⟨_, _, rfl⟩⟩, fun A hA => by
      have e : A = ⟨e, ety.width, List.replicate m ety.zeroD⟩ := by simpa [Ab.al] using hA.symm
      subst e
      exact ⟨by simp, by simp [upd, cutV]⟩⟩))
  | loadE t x y ty ho hm hx hf =>
    have h1 := hs.val x; rw [hx] at h1
    obtain ⟨ad, hv, hp⟩ := h1
    obtain ⟨v, hr, hrep⟩ := loadAny (P := P) (w := w) (M := M) (hT _ hm) hf (ad := ad) (fun hy => by obtain ⟨v, a, b⟩ := hp.2.1 hy; exact ⟨v, hs.mw _ _ a, b⟩)
      (fun fs hfs i f hi => by obtain ⟨c, v, a, b⟩ := hp.2.2 fs hfs i f hi; exact ⟨c, v, hs.mw _ _ a, b⟩)
    have hrun : (execOp ac.eval o).run P w = .ok (.value v) w := by
      simp only at hr
      simp only [execOp, ho, hv, bind_pure_comp, Sem.run_map, hr, Result.andThen_ok]
    exact wp_value hrun (.of (hs.put hd hrep))
  | loadA t x k i A y ty ho hm hx hA hy hf =>
    have h1 := hs.val x; rw [hx] at h1
    obtain ⟨_, hlive⟩ := h1
    obtain ⟨hil, g, hg, hv⟩ := hlive A hA
    obtain ⟨cs, hcs, hcell⟩ := hs.cells hA hg
    obtain ⟨hw1, hel⟩ := hcs.2 i y hy
    obtain ⟨v, hr, hrep⟩ := loadAny (P := P) (w := w) (M := M) (hT _ hm) hf (ad := ⟨g, i * A.sz, none⟩) (fun hyc => by obtain ⟨v, a, b⟩ := hel.1 hyc; exact ⟨v, (hcell _ _ a).1, b⟩)
      (fun fs hfs j f hj => by obtain ⟨c, v, a, b⟩ := hel.2 fs hfs j f hj; exact ⟨c, v, by rw [Addr.add_lit]; exact (hcell _ _ a).1, b⟩)
    have hrun : (execOp ac.eval o).run P w = .ok (.value v) w := by
      simp only at hr
      simp only [execOp, ho, hv, bind_pure_comp, Sem.run_map, hr, Result.andThen_ok]
    exact wp_value hrun (.of (hs.put hd hrep))
  | loadF t x k i f A fs y ty ho hm hx hA hi hy hf =>
    have h1 := hs.val x; rw [hx] at h1
    obtain ⟨_, hlive⟩ := h1
    obtain ⟨hil, g, hg, hv⟩ := hlive A hA
    obtain ⟨cs, hcs, hcell⟩ := hs.cells hA hg
    obtain ⟨hw1, hel⟩ := hcs.2 i _ hi
    obtain ⟨hyc, v, a, b⟩ := hel.2 fs rfl f y hy
    have hr := run_load_cell (P := P) (w := w) (hT _ hm) hf hyc (hcell _ _ a).1
    have hrun : (execOp ac.eval o).run P w = .ok (.value v) w := by
      simp only at hr
      simp only [execOp, ho, hv, bind_pure_comp, Sem.run_map, hr, Result.andThen_ok]
    exact wp_value hrun (.of (hs.put hd b))
  | fieldA t x f Fs k i A ho hm hl hx hA =>
    have h1 := hs.val x; rw [hx] at h1
    obtain ⟨hus, hlive⟩ := h1
    obtain ⟨fds, fd, hun, hfd, hoff, ⟨i', hi, hi1⟩, _⟩ := field_at (hT _ hm) (f := f) hl
    obtain ⟨hil, g, hg, hv⟩ := hlive A hA
    have hrun : (execOp ac.eval o).run P w = .ok (.value (.pointer (some ⟨g, i * A.sz + f, none⟩))) w := by
      simp only [execOp, ho, Instr.fieldAt, bind_pure_comp, Sem.run_bind, Sem.run_map, run_underlying hun, Result.andThen_ok, hfd, hv, Instr.sureAddr, Sem.run_pure, fieldPlace, sizeOf, typeInfo, run_program, hi, hi1, Nat.one_ne_zero, if_false, hoff]
      rw [Addr.add_lit]
    exact wp_value hrun (.of (hs.put hd ⟨hus, fun A' hA' => by
      rw [hA] at hA'
      have e := Option.some.inj hA'
      subst e
      exact ⟨hil, g, hg, rfl⟩⟩))
  | sliceA t x hi e ety k m h A ho hm hE hx hA hhi hh =>
    have h1 := hs.val x; rw [hx] at h1
    obtain ⟨hus, hlive⟩ := h1
    obtain ⟨hmA, hv⟩ := hlive A hA
    have hu := (hT _ hm).und
    simp only at hu
    have hrun : (execOp ac.eval o).run P w = .ok (.value (cutV (γ k) h)) w := by
      have hsr := run_sizeOf (hT _ hE) (P := P) w
      simp only at hsr
      rcases ownBlock_live hs hA with ⟨hg, hn⟩ | ⟨g, cap, hg, hnc, hcm⟩
      · have hm0 : m = 0 := by rw [hn] at hmA; simpa using hmA
        subst hm0
        have hh0 : h = 0 := by omega
        subst hh0
        have hb := sliceBounds_run P w 0 0 none hi ac.eval 0 0 (Nat.le_refl _) rfl (boundOf_run hs hhi) (Nat.le_refl _) (Nat.le_refl _)
        rw [hg] at hv ⊢
        simp only [Option.map_none] at hb
        simp only [execOp, ho, hv, cutV, Instr.sliceAt, bind_pure_comp, Sem.run_bind, Sem.run_map, run_underlying hu, Result.andThen_ok, Instr.slice, Option.map_none, hb, hsr, Nat.sub_self, if_true]
      · have hb := sliceBounds_run P w m cap none hi ac.eval 0 h (by omega) rfl (boundOf_run hs hhi) (Nat.zero_le _) hh
        rw [hg] at hv ⊢
        simp only [Option.map_none] at hb
        simp only [execOp, ho, hv, cutV, Instr.sliceAt, bind_pure_comp, Sem.run_bind, Sem.run_map, run_underlying hu, Result.andThen_ok, Instr.slice, Option.map_none, hb, hsr, Nat.sub_zero]
        simp [Addr.add_zero']
    have hlv : LenV (cutV (γ k) h) h := by
      rcases ownBlock_live hs hA with ⟨hg, hn⟩ | ⟨g, cap, hg, hnc, hcm⟩ <;> rw [hg] <;> exact ⟨_, _, rfl⟩
    exact wp_value hrun (.of (hs.put hd ⟨⟨hus.1, hlv⟩, fun A' hA' => by
      rw [hA] at hA'
      have e := Option.some.inj hA'
      subst e
      exact ⟨by omega, rfl⟩⟩))
  | sliceW t x lo hi e ety k m l h A ho hm hE hx hA hsz hlo hhi hlh hh =>
    have h1 := hs.val x; rw [hx] at h1
    obtain ⟨hus, hlive⟩ := h1
    obtain ⟨hmA, hv⟩ := hlive A hA
    have hu := (hT _ hm).und
    simp only at hu
    have hsr := run_sizeOf (hT _ hE) (P := P) w
    simp only at hsr
    rw [hsz] at hsr
    rcases ownBlock_live hs hA with ⟨hg, hn⟩ | ⟨g, cap, hg, hnc, hcm⟩
    · have hm0 : m = 0 := by rw [hn] at hmA; simpa using hmA
      subst hm0
      have hh0 : h = 0 := by omega
      have hl0 : l = 0 := by omega
      subst hh0 hl0
      have hb := sliceBounds_run P w 0 0 (some lo) hi ac.eval 0 0 (Nat.le_refl _) (boundOf_run hs hlo) (boundOf_run hs hhi) (Nat.le_refl _) (Nat.le_refl _)
      rw [hg] at hv
      have hrun : (execOp ac.eval o).run P w = .ok (.value (.slice none 0 0)) w := by
        simp only [execOp, ho, hv, cutV, Instr.sliceAt, bind_pure_comp, Sem.run_bind, Sem.run_map, run_underlying hu, Result.andThen_ok, Instr.slice, Option.map_none, hb, hsr, Nat.sub_self, if_true]
      exact wp_value hrun (.of (hs.put hd ⟨⟨hus.1, ⟨none, 0, rfl⟩⟩, fun A' hA' => ⟨⟨Nat.le_refl _, Nat.zero_le _⟩, .inl rfl⟩⟩))
    · have hb := sliceBounds_run P w m cap (some lo) hi ac.eval l h (by omega) (boundOf_run hs hlo) (boundOf_run hs hhi) hlh hh
      rw [hg] at hv
      have hrun : (execOp ac.eval o).run P w = .ok (.value (.slice (if cap = l then some ⟨g, 0, none⟩ else some ((⟨g, 0, none⟩ : Addr).add (l * A.sz))) (h - l) (cap - l))) w := by
        simp only [execOp, ho, hv, cutV, Instr.sliceAt, bind_pure_comp, Sem.run_bind, Sem.run_map, run_underlying hu, Result.andThen_ok, Instr.slice, Option.map_none, hb, hsr]
        by_cases hc : cap = l
        · subst hc; simp
        · have hc2 : ¬ cap - l = 0 := by omega
          simp [hc, hc2]
      refine wp_value hrun (.of (hs.put hd ⟨⟨hus.1, ⟨_, _, rfl⟩⟩, fun A' hA' => ?_⟩))
      rw [hA] at hA'
      have e := Option.some.inj hA'
      subst e
      refine ⟨⟨hlh, by omega⟩, ?_⟩
      by_cases e : h = l
      · exact .inl e
      · refine .inr ⟨g, cap - l, by rw [hg]; rfl, ?_⟩
        rw [if_neg (by omega), addr_add0]
  | indexA t x ix e ety k m j kd A ho hm hE hx hA hsz hi hj =>
    have h1 := hs.val x; rw [hx] at h1
    have e2 : ac.eval ix = .int kd (j : Int) := by have := hs.val ix; rw [hi] at this; exact rep_sc this
    obtain ⟨hus, hlive⟩ := h1
    obtain ⟨hmA, hv⟩ := hlive A hA
    have hu := (hT _ hm).und
    simp only at hu
    have hsr := run_sizeOf (hT _ hE) (P := P) w
    simp only at hsr
    rcases ownBlock_live hs hA with ⟨hg, hn⟩ | ⟨g, cap, hg, hnc, hcm⟩
    · rw [hn] at hmA; simp at hmA; omega
    · have hrun : (execOp ac.eval o).run P w = .ok (.value (.pointer (some ⟨g, j * A.sz, none⟩))) w := by
        rw [hg] at hv
        simp only [execOp, ho, hv, e2, cutV]
        simp [Instr.indexAt, asIntOf, run_underlying hu, hj, hsr, hsz, Addr.add_lit]
      exact wp_value hrun (.of (hs.put hd ⟨hus.1, fun A' hA' => by
        rw [hA] at hA'
        have e := Option.some.inj hA'
        subst e
        exact ⟨by omega, g, by rw [hg]; rfl, rfl⟩⟩))
  | lenA t x e k m ho hm hx =>
    have h1 := hs.val x; rw [hx] at h1
    obtain ⟨a, c, hv⟩ := h1.1.2
    have hu := (hT _ hm).und
    simp only at hu
    have hrun : (execOp ac.eval o).run P w = .ok (.value (.int .i64 m)) w := by
      simp [execOp, ho, resolve, invoke, builtin, hv, Builtin.len_, run_underlying hu, goInt]
    exact wp_value hrun (.of (hs.put hd (.sc _ rfl)))
  | convS src dst e x bs ho hm hE hD hx =>
    obtain ⟨a, cap, news, hv, hc, hat⟩ := cont_at hs hx (hs.val x) (sz := 1) (fun y hy => by obtain ⟨b, _, rfl⟩ := List.mem_map.1 hy; rfl)
    have hu1 := (hT _ hm).und
    have hu2 := (hT _ hE).und
    have hu3 := (hT _ hD).und
    simp only at hu1 hu2 hu3
    have hn : news = bs.map (Value.int .u8) := by
      apply List.ext_getElem?
      intro j
      have hl : news.length = bs.length := by have := hc.1; simpa using this
      by_cases hj : j < bs.length
      · obtain ⟨_, h1, _⟩ := hc.2 j (.sc (.int .u8 bs[j])) (by simp [hj])
        obtain ⟨v, a1, b1⟩ := h1 rfl
        rw [Nat.mul_one] at a1
        rw [a1, rep_sc b1]; simp [hj]
      · rw [List.getElem?_eq_none (by omega), List.getElem?_eq_none (by simp; omega)]
    have hrun : (execOp ac.eval o).run P w = .ok (.value (.string (bs.foldl (fun r n => r.push (UInt8.ofNat n.toNat)) ByteArray.empty))) w := by
      have h1 : (convert src dst (ac.eval x)).run P w = .ok (.string (bs.foldl (fun r n => r.push (UInt8.ofNat n.toNat)) ByteArray.empty)) w := by
        rw [hv, run_convert_bytes_string w src dst e _ _ cap hu1 hu2 hu3]
        rcases hat with ⟨rfl, h0⟩ | ⟨ad, rfl, hcell⟩
        · have : bs = [] := by simpa using h0
          subst this
          rfl
        · refine run_bytesToString w ad _ cap bs ?_
          have := run_loadCells_list (P := P) w ad news hcell
          rw [hn, List.length_map] at this
          simpa using this
      simp only [execOp, ho, bind_pure_comp, Sem.run_map, h1, Result.andThen_ok]
    exact wp_value hrun (.of (hs.put hd (.sc _ rfl)))
  | nilA x k i A ho hx hA =>
    have h1 := hs.val x; rw [hx] at h1
    obtain ⟨_, g, hg, hv⟩ := h1.2 A hA
    have hrun : (execOp ac.eval o).run P w = .ok (.value (ac.eval x)) w := by
      simp only [execOp, ho, hv, Sem.run_pure]
    exact wp_value hrun (.of (hs.put hd h1))
  | call fx args tys f as ks r s al ho hf hx hc hr =>
    have h1 := hs.val fx; rw [hf] at h1
    obtain ⟨M', h2, hle, hl, hra⟩ := SimW.toAs hx rfl hs (vs := fun j => (args.map ac.eval).getD j undef) (fun j s hj => by
      rw [List.getElem?_map] at hj
      cases hp : args.toList[j]? with
      | none => simp [hp] at hj
      | some p =>
        simp [hp] at hj; subst hj
        have hp' : args[j]? = some p := by simpa using hp
        have e : (args.map ac.eval).getD j undef = ac.eval p := by simp [hp']
        rw [e]; exact hs.val p)
    refine wp_call (run_call ho h1 hc.ent) (hc.run w M' (args.map ac.eval) h2.mw (by rw [hl]; simp) hra) fun v w' ha => ?_
    obtain ⟨v', M'', he, hb, hle2, hmw, hmn, hres⟩ := ha
    cases he
    exact res_put h2 hd (hr.us (shares_c τ ks).2.1) hb hle2 hmw hmn hres
  | callFlat fx args tys f as ks r s ho hf hx hc hr =>
    have h1 := hs.val fx; rw [hf] at h1
    obtain ⟨M', h2, hle, hl, hra⟩ := SimW.toAs hx rfl hs (vs := fun j => (args.map ac.eval).getD j undef) (fun j s hj => by
      rw [List.getElem?_map] at hj
      cases hp : args.toList[j]? with
      | none => simp [hp] at hj
      | some p =>
        simp [hp] at hj; subst hj
        have hp' : args[j]? = some p := by simpa using hp
        have e : (args.map ac.eval).getD j undef = ac.eval p := by simp [hp']
        rw [e]; exact hs.val p)
    refine wp_call (run_call ho h1 hc.ent) (hc.run w M' (args.map ac.eval) h2.mw (by rw [hl]; simp) hra) fun v w' ha => ?_
    obtain ⟨v', M'', he, hb, hle2, hmw, hmn, hres⟩ := ha
    cases he
    exact flat_put hs hd hr hb hres
  | callFr fx args tys f as ks r s p ho hf hx hc hr =>
    have h1 := hs.val fx; rw [hf] at h1
    obtain ⟨M', h2, hle, hl, hra⟩ := SimW.toAs hx rfl hs (vs := fun j => (args.map ac.eval).getD j undef) (fun j s hj => by
      rw [List.getElem?_map] at hj
      cases hp : args.toList[j]? with
      | none => simp [hp] at hj
      | some p =>
        simp [hp] at hj; subst hj
        have hp' : args[j]? = some p := by simpa using hp
        have e : (args.map ac.eval).getD j undef = ac.eval p := by simp [hp']
        rw [e]; exact hs.val p)
    refine wp_call (run_call ho h1 hc.ent) (hc.run w M' (args.map ac.eval) h2.mw (by rw [hl]; simp) hra) fun v w' ha => ?_
    obtain ⟨v', M'', he, hb, hle2, hmw, hmn, hres⟩ := ha
    cases he
    exact fr_put hs hd hr hb hres
end
end Go.DL

namespace Go.DL
open Go.RowKit
section
variable {X : Env} {w0 : World} {M0 : Mem} {n : Nat} {τ : Ab} {ac : Act} {w : World} {M : Mem} {γ : Nat → Value} {P : Program} {T : Tys}

theorem run_append_nil' (w : World) (base : Nat) (t ty e : TypeId) (i : TypeInfo) (size : Nat) (ht : P.underlying t = some (.slice e)) (hi : P.info? e = some i)
    (v : Value) (n : Nat) (xs : List Value) (hown : w.ownsRow base e size v n xs) (c : Nat) : (Builtin.append_ #[t, t] ty #[v, .slice none 0 c]).run P w = .ok v w := by
  rcases hown.2 with ⟨rfl, rfl⟩ | ⟨g, cap, cur, rfl, _, _, hnc, _⟩
  · simp [Builtin.append_, run_underlying ht, sizeOf, typeInfo, hi, Builtin.lenOf, Builtin.firstCells]
  · simp [Builtin.append_, run_underlying ht, sizeOf, typeInfo, hi, Builtin.lenOf, Builtin.firstCells, hnc, storeCells]

/-- append, whatever the operand: the run. -/
theorem run_append_all (hT : TOK P T) {t e : TypeId} {ety : Ty} (hm : (t, .sl e) ∈ T) (hE : (e, ety) ∈ T) (hpos : 0 < ety.width) {ty : TypeId} {v : Value} {n : Nat} {cs : List Value} (hown : w.ownsRow 0 e ety.width v n cs)
    {a : Option Addr} {m cap : Nat} {ys : List D} {news : List Value} (hc : CellsOK M ety.width ys news) (hm' : ys.length = m) (hnews : (a = none ∧ ys = []) ∨ ∃ ad, a = some ad ∧ ∀ j u, news[j]? = some u → w.cell? (ad.add j) = some u)
    (hl : n + m ≤ 34359738368) : ∃ v' w', (Builtin.append_ #[t, t] ty #[v, .slice a m cap]).run P w = .ok v' w' ∧ w'.ownsRow 0 e ety.width v' (n + m) (cs ++ news) ∧ w.grownBy w' v.ownBlock ∧
      (v'.ownBlock = v.ownBlock ∨ v'.ownBlock = some w.heap.size) := by
  have hu := (hT _ hm).und
  simp only at hu
  obtain ⟨i, hi, his, hiz, hib⟩ := (hT _ hE).info
  simp only at hi his hiz
  obtain ⟨hzs, _, _⟩ := (ety.zero_rep M).cells_one
  rw [ety.zero_width] at hzs
  rcases hnews with ⟨rfl, rfl⟩ | ⟨ad, rfl, hcell⟩
  · have hm0 : m = 0 := by simpa using hm'.symm
    subst hm0
    have hn : news = [] := List.eq_nil_of_length_eq_zero (by simpa using hc.1)
    subst hn
    refine ⟨v, w, run_append_nil' w 0 t ty e i ety.width hu hi v n cs hown cap, by simpa using hown, ⟨rfl, rfl, rfl, Nat.le_refl _, fun _ _ _ => rfl⟩, .inl rfl⟩
  · have hb : (n + m) * i.bytes ≤ 140737488355328 := by
      have := Nat.mul_le_mul hl hib
      omega
    obtain ⟨v', w', h1, h2, h3, _, h5⟩ := run_append_own_at (P := P) w 0 t ty e i ety.zeroV ety.width i.bytes hu hi hiz his rfl hzs hpos v n cs hown ad m cap news (by rw [hc.1, hm']) hcell (cellsOK_oneCell hc)
      (by simp only [maxLen]; omega) hb (Nat.zero_le _)
    exact ⟨v', w', h1, h2, h3, h5⟩

theorem run_append_op {o : Oper} {x y : Operand} {t : TypeId} (ho : o.op = .call { callee := .builtin .append, args := #[x, y], argTypes := #[t, t] }) {v1 v2 v' : Value} {w' : World} (h1 : ac.eval x = v1) (h2 : ac.eval y = v2)
    (hr : (Builtin.append_ #[t, t] o.type #[v1, v2]).run P w = .ok v' w') : (execOp ac.eval o).run P w = .ok (.value v') w' := by
  simp only [execOp, ho, resolve, invoke, builtin, Sem.run_bind, Sem.run_pure, Result.andThen_ok, List.map_toArray, List.map_cons, List.map_nil, h1, h2, hr]

theorem ownsRow_below {w : World} {b e sz n : Nat} {v : Value} {cs : List Value} (h : w.ownsRow b e sz v n cs) : w.ownsRow 0 e sz v n cs := by
  refine ⟨h.1, ?_⟩
  rcases h.2 with hl | ⟨g, cap, cur, hv, r1, r2⟩
  · exact .inl hl
  · exact .inr ⟨g, cap, cur, hv, Nat.zero_le _, r2⟩

/-- An array that lies in the world already, and is nobody's, becomes an own one. -/
theorem SimW.adopt (h : SimW X w0 M0 n τ ac w M γ) {k : Nat} {A : Arr} {v : Value} (hk : τ.us k = false) (hkn : k < n)
    (cs : List Value) (hown : w.ownsRow 0 A.e A.sz v A.xs.length cs) (hcs : CellsOK M A.sz A.xs cs) (hpos : 0 < A.sz)
    (hnm : ∀ g, v.ownBlock = some g → ∀ off sp, M ⟨g, off, sp⟩ = none) (hnew : ∀ g, v.ownBlock = some g → (w0.heap.size ≤ g ∨ X.x g) ∧ ∀ j B, τ.c j = some B → (γ j).ownBlock ≠ some g)
    (htr : ∃ φ, TrOK X.x w0 w M τ.us τ.c τ.f γ φ ∧ ∀ j B g, τ.f j = some B → φ j g → v.ownBlock ≠ some g) :
    SimW X w0 M0 n (τ.al k A) ac w M (upd γ k v) := by
  refine ⟨h.dfr, h.fsz, h.os, h.tape, h.output, h.hsz, h.frame, h.m0, h.mw, h.mn, fun t => (h.slots t).goes (Mem.le_refl M) (Goes.al τ γ hk), fun j A' hA' => ?_, fun j j' A1 A2 g h1 h2 g1 g2 => ?_, fun j v' hj => ?_, h.nb, ?_⟩
  rotate_right
  · obtain ⟨φ, ht, hv⟩ := htr
    have hne : ∀ j, τ.us j = true → j ≠ k := fun j hj e => by rw [e, hk] at hj; cases hj
    refine ⟨φ, fun j B hB => ?_, fun j B g hB hg => ?_, ht.dis⟩
    · obtain ⟨a, b, c⟩ := ht.row j B hB
      have hjk := hne j a
      refine ⟨by simp [Ab.al, a], by simpa [Ab.al, hjk] using b, ?_⟩
      rw [show upd γ k v j = γ j by simp [upd, hjk]]
      exact c.keep (Mem.le_refl M) (fun i hi => ⟨by simp [Ab.al, hi], by simp [upd, hne i hi]⟩) fun _ _ => rfl
    · obtain ⟨a, b, c, d⟩ := ht.new j B g hB hg
      refine ⟨a, b, c, fun i A' hA' => ?_⟩
      by_cases e : i = k
      · subst e; simp only [upd, if_true]; exact hv j B g hB hg
      · rw [show upd γ k v i = γ i by simp [upd, e]]
        exact d i A' (by simpa [Ab.al, e] using hA')
  · by_cases hj : j = k
    · subst hj
      have e : A' = A := by simpa [Ab.al] using hA'.symm
      subst e
      refine ⟨by simp [Ab.al], ⟨⟨cs, by simpa [upd] using hown, hcs, fun g hg off sp u hu => ?_⟩, hpos, fun g hg => ?_⟩⟩
      · simp only [upd, if_true] at hg
        rw [hnm g hg off sp] at hu; cases hu
      · simp only [upd, if_true] at hg
        exact (hnew g hg).1
    · have hA : τ.c j = some A' := by simpa [Ab.al, hj] using hA'
      obtain ⟨h1, h2⟩ := h.ow j A' hA
      refine ⟨by simp [Ab.al, hj, h1], ?_⟩
      have e : upd γ k v j = γ j := by simp [upd, hj]
      rw [e]
      exact h2.keep (Mem.le_refl M) (fun _ _ => rfl) (fun _ _ _ _ _ hu => hu) id
  · by_cases e1 : j = k
    · by_cases e2 : j' = k
      · rw [e1, e2]
      · exfalso
        subst e1
        have hA : τ.c j' = some A2 := by simpa [Ab.al, e2] using h2
        simp only [upd, if_true] at g1
        simp only [upd, e2, if_false] at g2
        exact (hnew g g1).2 j' A2 hA g2
    · by_cases e2 : j' = k
      · exfalso
        subst e2
        have hA : τ.c j = some A1 := by simpa [Ab.al, e1] using h1
        simp only [upd, if_true] at g2
        simp only [upd, e1, if_false] at g1
        exact (hnew g g2).2 j A1 hA g1
      · simp only [upd, e1, e2, if_false] at g1 g2
        exact h.di j j' A1 A2 g (by simpa [Ab.al, e1] using h1) (by simpa [Ab.al, e2] using h2) g1 g2
  · obtain ⟨p1, p2, p3, p4⟩ := h.pin j v' hj
    have hne : j ≠ k := by omega
    have e : upd γ k v j = γ j := by simp [upd, hne]
    refine ⟨p1, p2, fun A' hA' => ?_, fun B hB => by rw [e]; exact p4 B hB⟩
    have hA : τ.c j = some A' := by simpa [Ab.al, hne] using hA'
    rw [e]; exact p3 A' hA

theorem SimW.tr_lent (h : SimW X w0 M0 n τ ac w M γ) {k : Nat} {A : Arr} (hk : τ.c k = some A) {w' : World} {M' : Mem} {xs : List D} (ha : LAfter w M (γ k) (some A) w' M' xs) :
    ∃ φ, TrOK X.x w0 w' M' (τ.up k ⟨A.e, A.sz, xs⟩).us (τ.up k ⟨A.e, A.sz, xs⟩).c (τ.up k ⟨A.e, A.sz, xs⟩).f γ φ ∧ ∀ j B g, (τ.up k ⟨A.e, A.sz, xs⟩).f j = some B → φ j g → g < w.heap.size := by
  obtain ⟨φ, ht⟩ := h.tr
  refine ⟨φ, ht.keep ha.le (fun _ h => ⟨h, rfl⟩) (fun _ _ h => h) (fun j A' hA' _ => ?_) ha.hsz fun g hg hg2 hg3 hg4 => ⟨ha.frame g hg (fun A0 _ => hg4 k A hk), fun off sp => ?_, fun j A' hA' => ?_⟩, fun j B g hB hg => (ht.new j B g hB hg).1⟩
  · by_cases e : j = k
    · exact ⟨A, e ▸ hk⟩
    · exact ⟨A', by simpa [Ab.up, e] using hA'⟩
  · cases hm : M' ⟨g, off, sp⟩ with
    | none => rfl
    | some u =>
      rcases ha.mn _ u hm with h1 | h1
      · rw [hg3] at h1; cases h1
      · simp only at h1; omega
  · by_cases e : j = k
    · exact hg4 j A (e ▸ hk)
    · exact hg4 j A' (by simpa [Ab.up, e] using hA')

/-- A call to which array k was lent is over. -/
theorem SimW.lent (h : SimW X w0 M0 n τ ac w M γ) {k : Nat} {A : Arr} (hk : τ.c k = some A) {w' : World} {M' : Mem} {xs : List D} (ha : LAfter w M (γ k) (some A) w' M' xs) :
    SimW X w0 M0 n (τ.up k ⟨A.e, A.sz, xs⟩) ac w' M' γ := by
  obtain ⟨hl, hlent⟩ := ha.lent A rfl
  obtain ⟨hus, hownk⟩ := h.ow k A hk
  have hblk : ∀ j A', τ.c j = some A' → j ≠ k → ∀ g, (γ j).ownBlock = some g → w'.heap[g]? = w.heap[g]? := fun j A' hA' hj g hg =>
    ha.frame g ((h.ow j A' hA').2.lt g hg) (fun A0 _ e => hj (h.di j k A' A g hA' hk hg e))
  have hgoes : Goes τ (τ.up k ⟨A.e, A.sz, xs⟩) γ γ := Goes.up γ hk hl
  refine ⟨h.dfr, h.fsz, ha.os.trans h.os, ha.tape.trans h.tape, ha.output.trans h.output, Nat.le_trans h.hsz ha.hsz, fun j hj hX => ?_, Mem.le_trans h.m0 ha.le, ha.mw, fun a v hav => ?_, fun t => (h.slots t).goes ha.le hgoes, fun j A' hA' => ?_, fun j j' A1 A2 g h1 h2 g1 g2 => ?_, fun j v hj => ?_, h.nb, let ⟨φ, ht, _⟩ := h.tr_lent hk ha; ⟨φ, ht⟩⟩
  · rw [ha.frame j (Nat.lt_of_lt_of_le hj h.hsz) (fun A0 _ e => ?_)]
    · exact h.frame j hj hX
    · rcases hownk.new j e with h1 | h1
      · omega
      · exact hX h1
  · rcases ha.mn a v hav with h1 | h1
    · exact h.mn a v h1
    · exact .inr (.inl (Nat.le_trans h.hsz h1))
  · by_cases e : j = k
    · subst e
      have e1 : A' = ⟨A.e, A.sz, xs⟩ := by simpa [Ab.up] using hA'.symm
      subst e1
      obtain ⟨cs, hown, hcs⟩ := hlent.own
      exact ⟨hus, ⟨⟨cs, hown, hcs, fun g hg off sp u hu => by rw [hlent.nm g hg off sp] at hu; cases hu⟩, hlent.pos, hownk.new⟩⟩
    · have hA : τ.c j = some A' := by simpa [Ab.up, e] using hA'
      obtain ⟨h1, h2⟩ := h.ow j A' hA
      refine ⟨h1, h2.keep ha.le (hblk j A' hA e) (fun g hg off sp u hu => ?_) id⟩
      rcases ha.mn _ u hu with h3 | h3
      · exact h3
      · have := h2.lt g hg
        simp only at h3
        omega
  · have f1 : ∃ B1, τ.c j = some B1 := by
      by_cases e : j = k
      · exact ⟨A, e ▸ hk⟩
      · exact ⟨A1, by simpa [Ab.up, e] using h1⟩
    have f2 : ∃ B2, τ.c j' = some B2 := by
      by_cases e : j' = k
      · exact ⟨A, e ▸ hk⟩
      · exact ⟨A2, by simpa [Ab.up, e] using h2⟩
    obtain ⟨B1, hB1⟩ := f1
    obtain ⟨B2, hB2⟩ := f2
    exact h.di j j' B1 B2 g hB1 hB2 g1 g2
  · obtain ⟨p1, p2, p3, p4⟩ := h.pin j v hj
    refine ⟨p1, p2, fun A' hA' => ?_, p4⟩
    by_cases e : j = k
    · exact p3 A (e ▸ hk)
    · exact p3 A' (by simpa [Ab.up, e] using hA')

theorem SimW.tr_moved (h : SimW X w0 M0 n τ ac w M γ) {k : Nat} {A : Arr} (hk : τ.c k = some A) {w' : World} {M' : Mem} (ha : MAfter w M (γ k) w' M') :
    ∃ φ, TrOK X.x w0 w' M' (τ.kill k).us (τ.kill k).c (τ.kill k).f γ φ ∧ ∀ j B g, (τ.kill k).f j = some B → φ j g → g < w.heap.size ∧ (γ k).ownBlock ≠ some g := by
  obtain ⟨φ, ht⟩ := h.tr
  have liv : ∀ {j : Nat} {A' : Arr}, (τ.kill k).c j = some A' → j ≠ k ∧ τ.c j = some A' := fun {j A'} hA' => by
    have hjk : j ≠ k := fun e => by subst e; simp [Ab.kill] at hA'
    exact ⟨hjk, by simpa [Ab.kill, hjk] using hA'⟩
  refine ⟨φ, ht.keep ha.le (fun _ h => ⟨h, rfl⟩) (fun _ _ h => h) (fun j A' hA' _ => ⟨A', (liv hA').2⟩) ha.hsz fun g hg hg2 hg3 hg4 => ⟨ha.frame g hg (hg4 k A hk), fun off sp => ?_, fun j A' hA' => hg4 j A' (liv hA').2⟩, fun j B g hB hg => ⟨(ht.new j B g hB hg).1, (ht.new j B g hB hg).2.2.2 k A hk⟩⟩
  cases hm : M' ⟨g, off, sp⟩ with
  | none => rfl
  | some u =>
    rcases ha.mn _ u hm with h1 | h1 | h1
    · rw [hg3] at h1; cases h1
    · simp only at h1; omega
    · exact absurd h1 (hg4 k A hk)

/-- A call to which array k was given away is over. -/
theorem SimW.moved (h : SimW X w0 M0 n τ ac w M γ) {k : Nat} {A : Arr} (hk : τ.c k = some A) {w' : World} {M' : Mem} (ha : MAfter w M (γ k) w' M') :
    SimW X w0 M0 n (τ.kill k) ac w' M' γ := by
  obtain ⟨hus, hownk⟩ := h.ow k A hk
  have liv : ∀ {j : Nat} {A' : Arr}, (τ.kill k).c j = some A' → j ≠ k ∧ τ.c j = some A' := fun {j A'} hA' => by
    have hjk : j ≠ k := fun e => by subst e; simp [Ab.kill] at hA'
    exact ⟨hjk, by simpa [Ab.kill, hjk] using hA'⟩
  have hgoes : Goes τ (τ.kill k) γ γ := .of (fun _ _ h => h) (fun _ _ => rfl) fun j hj => ⟨hj, fun A' hA' => ⟨A', (liv hA').2, rfl, Nat.le_refl _⟩⟩
  refine ⟨h.dfr, h.fsz, ha.os.trans h.os, ha.tape.trans h.tape, ha.output.trans h.output, Nat.le_trans h.hsz ha.hsz, fun j hj hX => ?_, Mem.le_trans h.m0 ha.le, ha.mw, fun a v hav => ?_, fun t => (h.slots t).goes ha.le hgoes, fun j A' hA' => ?_, fun j j' A1 A2 g h1 h2 g1 g2 => ?_, fun j v hj => ?_, h.nb, let ⟨φ, ht, _⟩ := h.tr_moved hk ha; ⟨φ, ht⟩⟩
  · rw [ha.frame j (Nat.lt_of_lt_of_le hj h.hsz) (fun e => ?_)]
    · exact h.frame j hj hX
    · rcases hownk.new j e with h1 | h1
      · omega
      · exact hX h1
  · rcases ha.mn a v hav with h1 | h1 | h1
    · exact h.mn a v h1
    · exact .inr (.inl (Nat.le_trans h.hsz h1))
    · exact .inr (hownk.new _ h1)
  · obtain ⟨hjk, hA⟩ := liv hA'
    obtain ⟨h1, h2⟩ := h.ow j A' hA
    refine ⟨h1, h2.keep ha.le (fun g hg => ha.frame g (h2.lt g hg) (fun e => hjk (h.di j k A' A g hA hk hg e))) (fun g hg off sp u hu => ?_) id⟩
    rcases ha.mn _ u hu with h3 | h3 | h3
    · exact h3
    · have := h2.lt g hg
      simp only at h3
      omega
    · exact absurd (h.di j k A' A g hA hk hg h3) hjk
  · exact h.di j j' A1 A2 g (liv h1).2 (liv h2).2 g1 g2
  · obtain ⟨p1, p2, p3, p4⟩ := h.pin j v hj
    exact ⟨p1, p2, fun A' hA' => p3 A' (liv hA').2, p4⟩

theorem SimW.tr_past (h : SimW X w0 M0 n τ ac w M γ) {w' : World} {M' : Mem} {u : Value} {xs : List D} (ha : LAfter w M u none w' M' xs) :
    ∃ φ, TrOK X.x w0 w' M' τ.us τ.c τ.f γ φ ∧ ∀ j B g, τ.f j = some B → φ j g → g < w.heap.size := by
  obtain ⟨φ, ht⟩ := h.tr
  refine ⟨φ, ht.keep ha.le (fun _ h => ⟨h, rfl⟩) (fun _ _ h => h) (fun j A' hA' _ => ⟨A', hA'⟩) ha.hsz fun g hg hg2 hg3 hg4 => ⟨ha.frame g hg (fun A0 e => by cases e), fun off sp => ?_, hg4⟩, fun j B g hB hg => (ht.new j B g hB hg).1⟩
  cases hm : M' ⟨g, off, sp⟩ with
  | none => rfl
  | some u =>
    rcases ha.mn _ u hm with h1 | h1
    · rw [hg3] at h1; cases h1
    · simp only at h1; omega

/-- A call whose results are known by a property is over. -/
theorem SimW.past (h : SimW X w0 M0 n τ ac w M γ) {w' : World} {M' : Mem} {u : Value} {xs : List D} (ha : LAfter w M u none w' M' xs) : SimW X w0 M0 n τ ac w' M' γ :=
  h.call ⟨ha.os, ha.tape, ha.output, ha.hsz, fun j hj => ha.frame j hj (fun _ e => by cases e)⟩ ha.le ha.mw ha.mn

/-- What a call hands back is laid down; wb: the world before the call. -/
theorem res_adopt {wb : World} {r : Res} {dst : Option Nat} {s : S} {al : Option (Nat × Arr)} {v : Value} (h : SimW X w0 M0 n τ ac w M γ) (hd : ∀ d, dst = some d → d < n) (hr : ResE τ dst r s al)
    (hold : w0.heap.size ≤ wb.heap.size) (hlt : ∀ j B, τ.c j = some B → ∀ g, (γ j).ownBlock = some g → g < wb.heap.size)
    (htr : ∃ φ, TrOK X.x w0 w M τ.us τ.c τ.f γ φ ∧ ∀ j B g, τ.f j = some B → φ j g → g < wb.heap.size) (hv : RepRes wb w M r v) :
    Sim X w0 M0 n ((τ.alO al).put dst s) (ac.put dst v) w := by
  have newb : ∀ {e sz n' : Nat} {u : Value} {cs : List Value}, w.ownsRow wb.heap.size e sz u n' cs → ∀ g, u.ownBlock = some g → (w0.heap.size ≤ g ∨ X.x g) ∧ ∀ j B, τ.c j = some B → (γ j).ownBlock ≠ some g := fun hown g hg => by
    have hb := (hown.lt g hg).1
    exact ⟨.inl (Nat.le_trans hold hb), fun j B hB e => by have := hlt j B hB g e; omega⟩
  have newf : ∀ {e sz n' : Nat} {u : Value} {cs : List Value}, w.ownsRow wb.heap.size e sz u n' cs → ∃ φ, TrOK X.x w0 w M τ.us τ.c τ.f γ φ ∧ ∀ j B g, τ.f j = some B → φ j g → u.ownBlock ≠ some g := fun hown => by
    obtain ⟨φ, ht, hl⟩ := htr
    exact ⟨φ, ht, fun j B g hB hg e => by have := hl j B g hB hg; have := (hown.lt g e).1; omega⟩
  cases hr with
  | d x => exact ⟨M, γ, h.put hd hv⟩
  | unit => exact ⟨M, γ, h.put hd trivial⟩
  | own A d h1 hu =>
    obtain ⟨hpos, cs, hown, hcs, hnm⟩ := hv
    refine ⟨M, _, (h.adopt hu (hd d h1) cs (ownsRow_below hown) hcs hpos hnm (newb hown) (newf hown)).put hd ⟨⟨by simp [Ab.al], own_len hown⟩, fun A' hA' => ?_⟩⟩
    have e : A' = A := by simpa [Ab.al] using hA'.symm
    subst e
    refine ⟨Nat.le_refl _, ?_⟩
    rcases own_form hown with ⟨e, h0⟩ | ⟨g, cap, e, _, _⟩
    · rw [e, h0]; simp [upd, cutV]
    · rw [e]; simp [upd, cutV]
  | ptr A d h1 hu =>
    obtain ⟨hpos, hlen, u, g, hug, hve, cs, hown, hcs, hnm⟩ := hv
    refine ⟨M, _, (h.adopt hu (hd d h1) cs (ownsRow_below hown) hcs hpos (fun g' hg' off sp => by rw [hug] at hg'; cases hg'; exact hnm off sp) (newb hown) (newf hown)).put hd ⟨by simp [Ab.al], fun A' hA' => ?_⟩⟩
    have e : A' = A := by simpa [Ab.al] using hA'.symm
    subst e
    exact ⟨hlen, g, by simpa [upd] using hug, by rw [hve]; simp⟩
  | tupd x rest =>
    obtain ⟨vs, e, hsz, h0, hrest⟩ := hv
    refine ⟨M, γ, h.put hd ⟨vs, e, by simp [hsz], fun j s hs => ?_⟩⟩
    cases j with
    | zero => simp at hs; subst hs; exact h0
    | succ j =>
      rw [List.getElem?_cons_succ, List.getElem?_map] at hs
      cases hx : rest[j]? with
      | none => simp [hx] at hs
      | some y => simp [hx] at hs; subst hs; exact hrest j y hx
  | tupo A rest d h1 hu =>
    obtain ⟨vs, e, hsz, ⟨hpos, cs, hown, hcs, hnm⟩, hrest⟩ := hv
    refine ⟨M, _, (h.adopt hu (hd d h1) cs (ownsRow_below hown) hcs hpos hnm (newb hown) (newf hown)).put hd ⟨vs, e, by simp [hsz], fun j s hs => ?_⟩⟩
    cases j with
    | zero =>
      simp at hs; subst hs
      refine ⟨⟨by simp [Ab.al], own_len hown⟩, fun A' hA' => ?_⟩
      have e : A' = A := by simpa [Ab.al] using hA'.symm
      subst e
      refine ⟨Nat.le_refl _, ?_⟩
      rcases own_form hown with ⟨e, h0⟩ | ⟨g, cap, e, _, _⟩
      · rw [e, h0]; simp [upd, cutV]
      · rw [e]; simp [upd, cutV]
    | succ j =>
      rw [List.getElem?_cons_succ, List.getElem?_map] at hs
      cases hx : rest[j]? with
      | none => simp [hx] at hs
      | some y => simp [hx] at hs; subst hs; exact hrest j y hx

theorem SimW.toLs {τ0 : Ab} {k : Nat} {A : Option Arr} {ss : List S} {xs : List A2} {ks : List Nat} (hd : ToLs τ0 k A ss xs ks) (hA : ∀ A0, A = some A0 → τ0.c k = some A0) : ∀ {τ : Ab} {M : Mem} {vs : Nat → Value}, τ.c = τ0.c → SimW X w0 M0 n τ ac w M γ →
    (∀ (j : Nat) (s : S), ss[j]? = some s → RepS M τ γ s (vs j)) →
    ∃ M', SimW X w0 M0 n (τ.shares ks) ac w M' γ ∧ Mem.le M M' ∧ xs.length = ss.length ∧ ∀ (j : Nat) (x : A2), xs[j]? = some x → RepA2 M' (γ k) x (vs j) := by
  induction hd with
  | nil => exact fun hc h hv => ⟨_, h, Mem.le_refl _, rfl, fun j x hx => by simp at hx⟩
  | @cons s x j ss xs ks h0 t ih =>
    intro τ M vs hc h hv
    have h00 : ToL τ k A s x j := h0.locl (fun i _ => by rw [hc])
    have hA' : ∀ A0, A = some A0 → τ.c k = some A0 := fun A0 e => by rw [hc]; exact hA A0 e
    have : ∃ M1, SimW X w0 M0 n (τ.shares j) ac w M1 γ ∧ Mem.le M M1 ∧ RepA2 M1 (γ k) x (vs 0) := by
      have hv0 := hv 0 _ rfl
      cases h00 with
      | d hd => exact h.toD hd hv0
      | fn f => exact ⟨M, h, Mem.le_refl M, hv0⟩
      | lv m A0 hA0 hm =>
        refine ⟨M, h, Mem.le_refl M, ?_⟩
        obtain ⟨h1, h2⟩ := hv0.2 A0 (hA' A0 hA0)
        show vs 0 = γ k
        rw [h2, hm]
        rcases ownBlock_live h (hA' A0 hA0) with ⟨e, h0⟩ | ⟨g, cap, e, _, _⟩
        · rw [e, h0]; rfl
        · rw [e]; rfl
      | lp A0 hA0 =>
        refine ⟨M, h, Mem.le_refl M, ?_⟩
        obtain ⟨_, g, hg, h2⟩ := hv0.2 A0 (hA' A0 hA0)
        exact ⟨g, hg, by rw [h2]; simp⟩
    obtain ⟨M1, h1, l1, r1⟩ := this
    obtain ⟨e1, e2, e3⟩ := shares_c τ j
    obtain ⟨M2, h2, l2, hl, r2⟩ := ih (vs := fun j => vs (j + 1)) (by rw [e1, hc]) h1 (fun i s' hs => (hv (i + 1) s' (by simpa using hs)).goes l1 (Goes.shares τ γ j))
    refine ⟨M2, by rw [shares_append]; exact h2, Mem.le_trans l1 l2, by simp [hl], fun i y hy => ?_⟩
    cases i with
    | zero =>
      simp at hy; subst hy
      cases x with
      | d x => exact Rep.mono l2 r1
      | fn f => exact r1
      | lv => exact r1
      | lp => exact r1
    | succ i => exact r2 i y (by simpa using hy)

theorem run_lcall {o : Oper} {fx : Operand} {args : Array Operand} {tys : Array TypeId} {f : FuncId} (ho : o.op = .call { callee := .value fx, args, argTypes := tys }) (hfx : fx = .func f) (he : Enters P f) :
    (execOp ac.eval o).run P w = .ok (.enter f (args.map ac.eval)) w := run_call ho (by rw [hfx]; rfl) he

theorem DEff.sound {o : Oper} {E : Ef → Prop} (hd : ∀ d, o.dst = some d → d < n) (h : DEff P T o τ E) (hs : SimW X w0 M0 n τ ac w M γ) (Q : Exit → Act → World → Prop) :
    o.wp P ac w (fun ac' w' => ∃ e, E e ∧ Sim X w0 M0 n (τ.eff o.dst e) ac' w') Q := by
  have args_at : ∀ (args : Array Operand) (j : Nat) (s : S), (args.toList.map τ.val)[j]? = some s → RepS M τ γ s ((args.map ac.eval).getD j undef) := fun args j s hj => by
    rw [List.getElem?_map] at hj
    cases hp : args.toList[j]? with
    | none => simp [hp] at hj
    | some p =>
      simp [hp] at hj; subst hj
      have hp' : args[j]? = some p := by simpa using hp
      have e : (args.map ac.eval).getD j undef = ac.eval p := by simp [hp']
      rw [e]; exact hs.val p
  have enter : ∀ {f : FuncId} {vs : Array Value} {R : Ending → World → Prop} {K : Act → World → Prop}, (execOp ac.eval o).run P w = .ok (.enter f vs) w → Calls P f vs w R → (∀ e w', R e w' → ∃ v, e = .returned v ∧ K (ac.put o.dst v) w') → o.wp P ac w K Q := fun hrun hc hK => by
    unfold Oper.wp
    rw [hrun]
    refine hc.mono fun e w' ha => ?_
    obtain ⟨v, he, hk⟩ := hK e w' ha
    subst he
    exact hk
  cases h with
  | lcall fx args tys f as ks k A R ho hfx hx hA hsh hc hr =>
    obtain ⟨M', h2, hle, hl, hra⟩ := SimW.toLs hx (fun A0 e => by cases e; exact hA) rfl hs (vs := fun j => (args.map ac.eval).getD j undef) (args_at args)
    obtain ⟨e1, e2, e3⟩ := shares_c τ ks
    have hA2 : (τ.shares ks).c k = some A := by rw [e1]; exact hA
    obtain ⟨hus, ⟨⟨cs, hown, hcs, hMn⟩, hpos, hnew⟩⟩ := h2.ow k A hA2
    have hlent : LentOK w M' A (γ k) := ⟨⟨cs, hown, hcs⟩, (fun g hg off sp => by
      cases hm : M' ⟨g, off, sp⟩ with
      | none => rfl
      | some u => have := (hMn g hg off sp u hm).1; rw [hsh] at this; cases this), hpos⟩
    refine enter (run_lcall ho hfx hc.ent) (hc.run w M' (γ k) (args.map ac.eval) h2.mw (fun A0 e => by cases e; exact hlent) (by rw [hl]; simp) hra) fun e w' ha => ?_
    obtain ⟨v, M'', r, xs, hR, he, haf, hres⟩ := ha
    refine ⟨v, he, ?_⟩
    obtain ⟨s, al, hre, hE⟩ := hr r xs hR
    refine ⟨_, hE, ?_⟩
    have h3 := h2.lent hA2 haf
    exact res_adopt (wb := w) h3 hd (hre.us (show ((τ.shares ks).up k _).us = τ.us from e2)) h2.hsz (fun j B hB g hg => by
      have : ∃ B', (τ.shares ks).c j = some B' := by
        by_cases e : j = k
        · exact ⟨A, e ▸ hA2⟩
        · exact ⟨B, by simpa [Ab.up, Ab.upO, Ab.kiO, e] using hB⟩
      obtain ⟨B', hB'⟩ := this
      exact (h2.ow j B' hB').2.lt g hg) (h2.tr_lent hA2 haf) hres
  | pcall fx args tys f as ks R ho hfx hx hc hr =>
    obtain ⟨M', h2, hle, hl, hra⟩ := SimW.toLs hx (fun A0 e => by cases e) rfl hs (vs := fun j => (args.map ac.eval).getD j undef) (args_at args)
    obtain ⟨e1, e2, e3⟩ := shares_c τ ks
    refine enter (run_lcall ho hfx hc.ent) (hc.run w M' (γ 0) (args.map ac.eval) h2.mw (fun A0 e => by cases e) (by rw [hl]; simp) hra) fun e w' ha => ?_
    obtain ⟨v, M'', r, xs, hR, he, haf, hres⟩ := ha
    refine ⟨v, he, ?_⟩
    obtain ⟨s, al, hre, hE⟩ := hr r xs hR
    refine ⟨_, hE, ?_⟩
    have h3 := h2.past haf
    exact res_adopt (wb := w) h3 hd (hre.us e2) h2.hsz (fun j B hB g hg => (h2.ow j B hB).2.lt g hg) (h2.tr_past haf) hres

  | mcall fx args tys f as ks k d A B rest ho hfx hx hA hsh hdst hu hc hE =>
    obtain ⟨M', h2, hle, hl, hra⟩ := SimW.toLs hx (fun A0 e => by cases e; exact hA) rfl hs (vs := fun j => (args.map ac.eval).getD j undef) (args_at args)
    obtain ⟨e1, e2, e3⟩ := shares_c τ ks
    have hA2 : (τ.shares ks).c k = some A := by rw [e1]; exact hA
    obtain ⟨hus, ⟨⟨cs, hown, hcs, hMn⟩, hpos, hnew⟩⟩ := h2.ow k A hA2
    have hlent : LentOK w M' A (γ k) := ⟨⟨cs, hown, hcs⟩, (fun g hg off sp => by
      cases hm : M' ⟨g, off, sp⟩ with
      | none => rfl
      | some u => have := (hMn g hg off sp u hm).1; rw [hsh] at this; cases this), hpos⟩
    refine enter (run_lcall ho hfx hc.ent) (hc.run w M' (γ k) (args.map ac.eval) h2.mw hlent (by rw [hl]; simp) hra) fun e w' ha => ?_
    obtain ⟨vs, M'', he, haf, hres⟩ := ha
    refine ⟨_, he, _, hE, ?_⟩
    have h3 := h2.moved hA2 haf
    obtain ⟨cs', hown', hcs'⟩ := hres.own
    have liv : ∀ {j : Nat} {A' : Arr}, ((τ.shares ks).kill k).c j = some A' → j ≠ k ∧ (τ.shares ks).c j = some A' := fun {j A'} hA' => by
      have hjk : j ≠ k := fun e => by subst e; simp [Ab.kill] at hA'
      exact ⟨hjk, by simpa [Ab.kill, hjk] using hA'⟩
    have hu2 : ((τ.shares ks).kill k).us d = false := by show (τ.shares ks).us d = false; rw [e2]; exact hu
    have h4 := h3.adopt (k := d) (A := B) (v := vs.getD 0 undef) hu2 (hd d hdst) cs' hown' hcs' hres.pos (fun g hg => (hres.new g hg).2) (fun g hg => by
      rcases (hres.new g hg).1 with h5 | h5
      · refine ⟨.inl (Nat.le_trans h2.hsz h5), fun j C hC e => ?_⟩
        have := (h2.ow j C (liv hC).2).2.lt g e; omega
      · exact ⟨hnew g h5, fun j C hC e => (liv hC).1 (h2.di j k C A g (liv hC).2 hA2 e h5)⟩) (by
      obtain ⟨φ, ht, hl⟩ := h2.tr_moved hA2 haf
      refine ⟨φ, ht, fun j B g hB hg e => ?_⟩
      obtain ⟨l1, l2⟩ := hl j B g hB hg
      rcases (hres.new g e).1 with h5 | h5
      · omega
      · exact l2 h5)
    have first : RepT M'' (((τ.shares ks).kill k).al d B) (upd γ d (vs.getD 0 undef)) (.av d B.xs.length) (vs.getD 0 undef) := by
      refine ⟨⟨by simp [Ab.al], own_len hown'⟩, fun A' hA' => ?_⟩
      have e : A' = B := by simpa [Ab.al] using hA'.symm
      subst e
      refine ⟨Nat.le_refl _, ?_⟩
      rcases own_form hown' with ⟨e, h0⟩ | ⟨g, cap, e, _, _⟩
      · rw [e, h0]; simp [upd, cutV]
      · rw [e]; simp [upd, cutV]
    cases rest with
    | nil => exact ⟨M'', _, h4.put hd first⟩
    | cons r0 rest =>
    refine ⟨M'', _, h4.put hd ⟨vs, rfl, by simp [hres.size], fun j s hs => ?_⟩⟩
    cases j with
    | zero =>
      simp at hs; subst hs
      exact first
    | succ j =>
      rw [List.getElem?_cons_succ, List.getElem?_map] at hs
      cases hx : (r0 :: rest)[j]? with
      | none => simp [hx] at hs
      | some y =>
        simp [hx] at hs; subst hs
        exact hres.tail j y hx
theorem WEff.sound (hT : TOK P T) {R : List Nat} {o : Oper} {e : Ef} (hd : ∀ d, o.dst = some d → d < n) (h : WEff P T R o τ e) (hs : SimW X w0 M0 n τ ac w M γ) (Q : Exit → Act → World → Prop) :
    o.wp P ac w (fun ac' w' => Sim X w0 M0 n (τ.eff o.dst e) ac' w') Q := by
  cases h with
  | storeA t x y k i A z ks ty ho hm hx hA hy hsh hi hz hw =>
    obtain ⟨M', h1, hle, hr⟩ := hs.toD hy (hs.val y)
    obtain ⟨e1, e2, e3⟩ := shares_c τ ks
    have h2 := hs.val x; rw [hx] at h2
    obtain ⟨_, hlive⟩ := h2
    obtain ⟨_, g, hg, hv⟩ := hlive A hA
    obtain ⟨hcs, hone, hel⟩ := hr.cells_one
    have hul : (ac.eval y).cells.toList.length = A.sz := by rw [Array.length_toList, hcs, hz]
    obtain ⟨w', hst, hsim⟩ := h1.storeRow (P := P) (k := k) (A := A) (by rw [e1]; exact hA) hsh hg (o := i * A.sz) (us := (ac.eval y).cells.toList) (by rw [hul]; exact mul_succ_le hi) hone (xs := A.xs.set i z) (by simp)
      (fun cs hc => cellsOK_set hc hi hz hul hel)
    have hsr := run_sizeOf (hT _ hm) (P := P) w
    simp only at hsr
    have hrun : (execOp ac.eval o).run P w = .ok .skip w' := by
      simp only [execOp, ho, hv, Instr.storeAt, Instr.sureAddr, storeVar, Sem.run_bind, Sem.run_pure, Result.andThen_ok, hsr]
      rw [if_neg (by simp only [ne_eq, Decidable.not_not]; rw [hcs, hz, hw]), hst]
      rfl
    exact wp_skip' hrun (.of (hsim.put hd rfl))
  | storeF t x y k i f A fs z ks ty ho hm hx hA hy hsh hi hf hz hw =>
    obtain ⟨M', h1, hle, hr⟩ := hs.toD hy (hs.val y)
    obtain ⟨e1, e2, e3⟩ := shares_c τ ks
    have h2 := hs.val x; rw [hx] at h2
    obtain ⟨_, hlive⟩ := h2
    obtain ⟨_, g, hg, hv⟩ := hlive A hA
    obtain ⟨hcs, hone, hel⟩ := hr.cells_one
    have hw1 : z.width = 1 := width_one hz
    have hvc : (ac.eval y).cells = #[ac.eval y] := by
      have := hr.oneCell hz
      cases hh : ac.eval y <;> rw [hh] at this <;> first | rfl | cases this
    have hsz : fs.length = A.sz := by
      obtain ⟨cs, hc, _⟩ := h1.cells (k := k) (A := A) (by rw [e1]; exact hA) hg
      exact (hc.2 i _ hi).1
    have hil := (List.getElem?_eq_some_iff.1 hi).1
    have hms := mul_succ_le (sz := A.sz) hil
    obtain ⟨w', hst, hsim⟩ := h1.storeRow (P := P) (k := k) (A := A) (by rw [e1]; exact hA) hsh hg (o := i * A.sz + f) (us := [ac.eval y]) (by simp; omega) (by simpa using hr.oneCell hz) (xs := A.xs.set i (.agg (fs.set f z))) (by simp)
      (fun cs hc => cellsOK_setF hc hi hf hz hr)
    have hsr := run_sizeOf (hT _ hm) (P := P) w
    simp only at hsr
    have hrun : (execOp ac.eval o).run P w = .ok .skip w' := by
      simp only [execOp, ho, hv, Instr.storeAt, Instr.sureAddr, storeVar, Sem.run_bind, Sem.run_pure, Result.andThen_ok, hsr, hvc]
      rw [if_neg (by simp [hw]), hst]
      rfl
    exact wp_skip' hrun (.of (hsim.put hd rfl))
  | appendA t x y e ety k m d A ys ho hdst hu hds hm hE hx hA hsh he hsz hy hw hl =>
    subst he
    obtain ⟨hus, ⟨⟨cs, hown, hcs, hM⟩, hpos, hnew⟩⟩ := hs.ow k A hA
    have h1 := hs.val x; rw [hx] at h1
    obtain ⟨hmA, hv⟩ := h1.2 A hA
    obtain ⟨a, cap, news, hvy, hc, hat⟩ := cont_at hs hy (hs.val y) hw
    rw [← hsz] at hown hcs hpos
    obtain ⟨v', w', hr, hown', hgr, hob⟩ := run_append_all (P := P) (T := T) hT hm hE hpos (ty := o.type) (own_prefix hown hmA) (cap := cap) hc rfl hat hl
    have hrun := run_append_op (P := P) ho hv hvy hr
    have hcut : (cutV (γ k) m).ownBlock = (γ k).ownBlock := by
      rcases ownBlock_live hs hA with ⟨hg, _⟩ | ⟨g, cap, hg, _⟩ <;> rw [hg] <;> rfl
    rw [hcut] at hgr hob
    have hlen : (A.xs.take m ++ ys).length = m + ys.length := by simp; omega
    have hsim := hs.app (k := k) (d := d) (A := A) (xs' := A.xs.take m ++ ys) hA hsh hu (hd d hdst) hds hgr (by rw [hlen, ← hsz]; exact hown') (by rw [← hsz]; exact cellsOK_append (cellsOK_take hcs hmA) hc)
      (fun g hg => by rcases hob with e | e
                      · exact .inl (e ▸ hg)
                      · rw [e] at hg; exact .inr (Option.some.inj hg).symm)
    refine wp_value hrun (.of (hsim.put hd ⟨⟨by simp [Ab.al], own_len hown'⟩, fun A' hA' => ?_⟩))
    have e : A' = ⟨A.e, A.sz, A.xs.take m ++ ys⟩ := by simpa [Ab.al] using hA'.symm
    subst e
    refine ⟨Nat.le_of_eq hlen.symm, ?_⟩
    rcases own_form hown' with ⟨e, h0⟩ | ⟨g, cap, e, _, _⟩
    · rw [e, h0]; simp [upd, cutV]
    · rw [e]; simp [upd, cutV]
  | appendN t x y e ety d ys ho hdst hu hm hE hp hx hy hw hl =>
    have h1 := hs.val x; rw [hx] at h1
    obtain ⟨a, cap, news, hvy, hc, hat⟩ := cont_at hs hy (hs.val y) hw
    obtain ⟨v', w', hr, hown', hgr, hob⟩ := run_append_all (P := P) (T := T) hT hm hE hp (ty := o.type) (World.ownsRow_nil w 0 e ety.width) (cap := cap) hc rfl hat (by omega)
    have hrun := run_append_op (P := P) ho h1 hvy hr
    simp only [Nat.zero_add, List.nil_append] at hown'
    have hblk : ∀ j, j < w.heap.size → w'.heap[j]? = w.heap[j]? := fun j hj => hgr.block j hj (by simp [Value.ownBlock])
    have hbelow : Below w.heap.size w w' := ⟨hgr.os, hgr.tape, hgr.output, hgr.size, hblk⟩
    have hob' : ∀ g, v'.ownBlock = some g → g = w.heap.size := fun g hg => by
      rcases hob with e | e
      · rw [e] at hg; simp [Value.ownBlock] at hg
      · rw [e] at hg; exact (Option.some.inj hg).symm
    have hown2 : w'.ownsRow w.heap.size e ety.width v' ys.length news := by
      refine ⟨hown'.1, ?_⟩
      rcases hown'.2 with hl | ⟨g, cap, cur, hv, r1, r2⟩
      · exact .inl hl
      · exact .inr ⟨g, cap, cur, hv, Nat.le_of_eq (hob' g (by rw [hv]; rfl)).symm, r2⟩
    have hsim := hs.al (k := d) (A := ⟨e, ety.width, ys⟩) (M' := M) hu (hd d hdst) hbelow (Mem.le_refl M) (fun a u hau => by
      have h3 := hs.mw a u hau
      rw [hbelow.cell (block_lt_of_cell h3)]; exact h3) (fun _ _ hau => .inl hau) news hown2 hc hp (fun g hg off sp => by rw [hob' g hg]; exact no_mem_new hs (Nat.le_refl _) off sp)
    refine wp_value hrun (.of (hsim.put hd ⟨⟨by simp [Ab.al], own_len hown'⟩, fun A' hA' => ?_⟩))
    have e : A' = ⟨e, ety.width, ys⟩ := by simpa [Ab.al] using hA'.symm
    subst e
    refine ⟨Nat.le_refl _, ?_⟩
    rcases own_form hown' with ⟨e, h0⟩ | ⟨g, cap, e, _, _⟩
    · rw [e, h0]; simp [upd, cutV]
    · rw [e]; simp [upd, cutV]
  | lcall fx args tys f as ks k A r xs s al ho hfx hL hx hk hA hsh hc hr =>
    have := DEff.sound (P := P) (T := T) (E := fun e => e = { s, sh := ks, al, up := some (k, ⟨A.e, A.sz, xs⟩) }) hd (.lcall fx args tys f as ks k A _ ho hfx hx hA hsh hc (fun r' xs' h => by obtain ⟨rfl, rfl⟩ := h; exact ⟨s, al, hr, rfl⟩)) hs Q
    exact Oper.wp_mono (fun ac' w' h => by obtain ⟨e, rfl, h⟩ := h; exact h) this
end
end Go.DL
