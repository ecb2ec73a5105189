/- Part of an evaluator of Go code on plain data, proved sound for the model: lemmas alone, for every program; each states its own conditions. -/
import Derived.Test.YtjhjedfnjimflaaEngE
namespace Go.DL
open Go.RowKit

/-! ### Cells of a list of elements -/
theorem mul_succ_le {j n sz : Nat} (h : j < n) : j * sz + sz ≤ n * sz := by
  have := Nat.mul_le_mul_right sz (show j + 1 ≤ n from h)
  rw [Nat.add_mul, Nat.one_mul] at this
  exact this

theorem elem_bound {i j sz o : Nat} (hij : j ≠ i) (ho1 : j * sz ≤ o) (ho2 : o < j * sz + sz) : o < i * sz ∨ i * sz + sz ≤ o := by
  rcases Nat.lt_or_ge j i with h | h
  · left
    have := mul_succ_le (sz := sz) h
    omega
  · right
    have := mul_succ_le (sz := sz) (show i < j by omega)
    omega

theorem splice_get {cs us : List Value} {o j : Nat} (h : o + us.length ≤ cs.length) :
    (cs.take o ++ us ++ cs.drop (o + us.length))[j]? = if j < o then cs[j]? else if j < o + us.length then us[j - o]? else cs[j]? := by
  have h1 : (cs.take o).length = o := by rw [List.length_take]; omega
  rw [List.append_assoc]
  simp only [List.getElem?_append, h1, List.getElem?_take, List.getElem?_drop]
  by_cases c1 : j < o
  · simp [c1]
  · simp only [c1, if_false]
    by_cases c2 : j < o + us.length
    · have : j - o < us.length := by omega
      simp [c2, this]
    · have h3 : ¬ (j - o < us.length) := by omega
      simp only [c2, h3, if_false]
      congr 1
      omega

theorem splice_len {cs us : List Value} {o : Nat} (h : o + us.length ≤ cs.length) : (cs.take o ++ us ++ cs.drop (o + us.length)).length = cs.length := by
  simp only [List.length_append, List.length_take, List.length_drop]
  omega

theorem elemAt_get {M : Mem} {x : D} {cs ds : List Value} {o : Nat} (h : ElemAt M x cs o) (he : ∀ i, i < x.width → ds[o + i]? = cs[o + i]?) : ElemAt M x ds o := by
  refine ⟨fun hx => ?_, fun fs hfs i f hi => ?_⟩
  · obtain ⟨v, h1, h2⟩ := h.1 hx
    refine ⟨v, ?_, h2⟩
    have := he 0 (by rw [width_one hx]; exact Nat.one_pos)
    simp only [Nat.add_zero] at this
    rw [this]; exact h1
  · obtain ⟨h0, v, h1, h2⟩ := h.2 fs hfs i f hi
    refine ⟨h0, v, ?_, h2⟩
    rw [he i (by subst hfs; exact (List.getElem?_eq_some_iff.1 hi).1)]
    exact h1

theorem cellsOK_set {M : Mem} {sz : Nat} {xs : List D} {cs : List Value} (h : CellsOK M sz xs cs) {i : Nat} (hi : i < xs.length) {y : D} {us : List Value} (hy : y.width = sz) (hl : us.length = sz)
    (he : ElemAt M y us 0) : CellsOK M sz (xs.set i y) (cs.take (i * sz) ++ us ++ cs.drop (i * sz + us.length)) := by
  obtain ⟨h1, h2⟩ := h
  have hb : i * sz + us.length ≤ cs.length := by rw [h1, hl]; exact mul_succ_le hi
  refine ⟨by rw [splice_len hb, h1, List.length_set], fun j x hx => ?_⟩
  rw [List.getElem?_set] at hx
  by_cases hij : i = j
  · subst hij
    rw [if_pos rfl] at hx
    simp only [hi, if_true, Option.some.injEq] at hx
    subst hx
    refine ⟨hy, fun hc => ?_, fun fs hfs f z hz => ?_⟩
    · obtain ⟨v, a, b⟩ := he.1 hc
      refine ⟨v, ?_, b⟩
      have := width_one hc
      rw [splice_get hb, if_neg (by omega), if_pos (by omega), Nat.sub_self]
      exact a
    · obtain ⟨c, v, a, b⟩ := he.2 fs hfs f z hz
      refine ⟨c, v, ?_, b⟩
      have hf := (List.getElem?_eq_some_iff.1 hz).1
      have hw : fs.length = sz := by subst hfs; exact hy
      rw [splice_get hb, if_neg (by omega), if_pos (by omega), Nat.add_sub_cancel_left]
      simpa using a
  · rw [if_neg hij] at hx
    obtain ⟨hw, hel⟩ := h2 j x hx
    refine ⟨hw, elemAt_get hel fun t ht => ?_⟩
    have hj := (List.getElem?_eq_some_iff.1 hx).1
    rcases elem_bound (sz := sz) (o := j * sz + t) (Ne.symm hij) (by omega) (by omega) with c | c
    · rw [splice_get hb, if_pos c]
    · rw [splice_get hb, if_neg (by omega), if_neg (by omega)]

theorem cellsOK_setF {M : Mem} {sz : Nat} {xs : List D} {cs : List Value} (h : CellsOK M sz xs cs) {i f : Nat} {fs : List D} (hi : xs[i]? = some (.agg fs)) (hf : f < fs.length) {z : D} {u : Value} (hz : z.isCell = true)
    (hu : Rep M z u) : CellsOK M sz (xs.set i (.agg (fs.set f z))) (cs.take (i * sz + f) ++ [u] ++ cs.drop (i * sz + f + [u].length)) := by
  obtain ⟨h1, h2⟩ := h
  obtain ⟨hw0, _, hag⟩ := h2 i _ hi
  have hsz : fs.length = sz := hw0
  have hi' := (List.getElem?_eq_some_iff.1 hi).1
  have hms := mul_succ_le (sz := sz) hi'
  have hb : i * sz + f + [u].length ≤ cs.length := by simp; omega
  refine ⟨by rw [splice_len hb, h1, List.length_set], fun j x hx => ?_⟩
  rw [List.getElem?_set] at hx
  by_cases hij : i = j
  · subst hij
    rw [if_pos rfl] at hx
    simp only [hi', if_true, Option.some.injEq] at hx
    subst hx
    refine ⟨by simp [D.width, hsz], fun hc => (by cases hc), fun gs hgs k z' hz' => ?_⟩
    cases hgs
    rw [List.getElem?_set] at hz'
    by_cases hk : f = k
    · subst hk
      rw [if_pos rfl] at hz'
      simp only [hf, if_true, Option.some.injEq] at hz'
      subst hz'
      refine ⟨hz, u, ?_, hu⟩
      rw [splice_get hb, if_neg (by omega), if_pos (by simp), Nat.sub_self]
      rfl
    · rw [if_neg hk] at hz'
      obtain ⟨c, v, a, b⟩ := hag fs rfl k z' hz'
      refine ⟨c, v, ?_, b⟩
      rw [splice_get hb]
      by_cases c1 : i * sz + k < i * sz + f
      · rw [if_pos c1]; exact a
      · rw [if_neg c1, if_neg (by simp; omega)]; exact a
  · rw [if_neg hij] at hx
    obtain ⟨hw, hel⟩ := h2 j x hx
    refine ⟨hw, elemAt_get hel fun t ht => ?_⟩
    rcases elem_bound (sz := sz) (o := j * sz + t) (Ne.symm hij) (by omega) (by omega) with c | c
    · rw [splice_get hb, if_pos (by omega)]
    · rw [splice_get hb, if_neg (by omega), if_neg (by simp; omega)]

theorem cellsOK_oneCell {M : Mem} {sz : Nat} {xs : List D} {cs : List Value} (h : CellsOK M sz xs cs) : ∀ u ∈ cs, u.oneCell' = true := by
  intro u hu
  obtain ⟨o, ho⟩ := List.getElem?_of_mem hu
  have hol := (List.getElem?_eq_some_iff.1 ho).1
  rw [h.1] at hol
  have hpos : 0 < sz := by
    rcases Nat.eq_zero_or_pos sz with e | e
    · subst e; simp at hol
    · exact e
  have hj : o / sz < xs.length := (Nat.div_lt_iff_lt_mul hpos).2 hol
  obtain ⟨hw, h1, h2⟩ := h.2 (o / sz) _ (List.getElem?_eq_getElem hj)
  have hdm : o / sz * sz + o % sz = o := by rw [Nat.mul_comm]; exact Nat.div_add_mod o sz
  have hmod := Nat.mod_lt o hpos
  cases hx : xs[o / sz] with
  | agg fs =>
    have hlen : fs.length = sz := by rw [hx] at hw; exact hw
    obtain ⟨c, v, a, b⟩ := h2 fs hx (o % sz) _ (List.getElem?_eq_getElem (by omega))
    rw [hdm, ho] at a
    have e := Option.some.inj a
    subst e
    exact b.oneCell c
  | sc v =>
    have hcx : xs[o / sz].isCell = true := by rw [hx]; rfl
    obtain ⟨v', a, b⟩ := h1 hcx
    have : sz = 1 := by rw [hx] at hw; exact hw.symm
    subst this
    simp only [Nat.div_one, Nat.mul_one] at a
    rw [ho] at a
    have e := Option.some.inj a
    subst e
    exact b.oneCell hcx
  | sl ys =>
    have hcx : xs[o / sz].isCell = true := by rw [hx]; rfl
    obtain ⟨v', a, b⟩ := h1 hcx
    have : sz = 1 := by rw [hx] at hw; exact hw.symm
    subst this
    simp only [Nat.div_one, Nat.mul_one] at a
    rw [ho] at a
    have e := Option.some.inj a
    subst e
    exact b.oneCell hcx

theorem cellsOK_replicate {M : Mem} {x : D} {us : List Value} {n : Nat} (hl : us.length = x.width) (he : ElemAt M x us 0) : CellsOK M x.width (List.replicate n x) ((List.replicate n us).flatten) := by
  have hlen : ∀ n, ((List.replicate n us).flatten).length = n * x.width := fun n => by simp [hl]
  refine ⟨by rw [hlen]; simp, fun j y hy => ?_⟩
  rw [List.getElem?_replicate] at hy
  split at hy
  case isFalse => cases hy
  case isTrue hj =>
  have e := Option.some.inj hy
  subst e
  refine ⟨rfl, ?_⟩
  have key : ∀ n j, j < n → ∀ i, i < x.width → ((List.replicate n us).flatten)[j * x.width + i]? = us[i]? := by
    intro n
    induction n with
    | zero => intro j hj; omega
    | succ n ih =>
      intro j hj i hi
      rw [List.replicate_succ, List.flatten_cons]
      cases j with
      | zero => rw [Nat.zero_mul, Nat.zero_add, List.getElem?_append_left (by omega)]
      | succ j =>
        rw [List.getElem?_append_right (by rw [hl, Nat.add_mul, Nat.one_mul]; omega)]
        have e : (j + 1) * x.width + i - us.length = j * x.width + i := by rw [hl, Nat.add_mul, Nat.one_mul]; omega
        rw [e]
        exact ih j (by omega) i hi
  refine ⟨fun hx => ?_, fun fs hfs i f hi => ?_⟩
  · obtain ⟨v, a, b⟩ := he.1 hx
    have := key n j hj 0 (by rw [width_one hx]; exact Nat.one_pos)
    simp only [Nat.add_zero] at this
    exact ⟨v, by rw [this]; exact a, b⟩
  · obtain ⟨c, v, a, b⟩ := he.2 fs hfs i f hi
    have hw : i < x.width := by subst hfs; exact (List.getElem?_eq_some_iff.1 hi).1
    refine ⟨c, v, ?_, b⟩
    rw [key n j hj i hw]
    simpa using a

theorem toList_madeCells (z : Array Value) (n : Nat) (hz : 0 < z.size) : (madeCells z (n * z.size)).toList = (List.replicate n z.toList).flatten := by
  apply List.ext_getElem?
  intro j
  have hlen : ((List.replicate n z.toList).flatten).length = n * z.size := by simp
  by_cases hj : j < n * z.size
  · have h1 : (madeCells z (n * z.size)).toList[j]? = some (z[j % z.size]!) := by
      simp [madeCells, hj]
    rw [h1]
    have hm := Nat.mod_lt j hz
    have key : ∀ n j, j < n * z.size → ((List.replicate n z.toList).flatten)[j]? = z.toList[j % z.size]? := by
      intro n
      induction n with
      | zero => intro j hj; simp at hj
      | succ n ih =>
        intro j hj
        rw [List.replicate_succ, List.flatten_cons]
        by_cases hjz : j < z.size
        · rw [List.getElem?_append_left (by simpa using hjz), Nat.mod_eq_of_lt hjz]
        · rw [List.getElem?_append_right (by simpa using hjz)]
          rw [Nat.add_mul, Nat.one_mul] at hj
          rw [Array.length_toList, ih (j - z.size) (by omega)]
          congr 1
          exact (Nat.mod_eq_sub_mod (by omega)).symm
    rw [key n j hj]
    rw [Array.getElem?_toList, Array.getElem?_eq_getElem hm]
    simp [hm]
  · rw [List.getElem?_eq_none (by simp [madeCells]; omega), List.getElem?_eq_none (by rw [hlen]; omega)]

theorem fold_set (o : Nat) : ∀ (us : List Value) (k : Nat) (c : Array Value), o + k + us.length ≤ c.size →
    ((us.zipIdx k).foldl (fun cs (p : Value × Nat) => cs.setIfInBounds (o + p.2) p.1) c).toList = c.toList.take (o + k) ++ us ++ c.toList.drop (o + k + us.length)
  | [], k, c, _ => by simp
  | u :: us, k, c, h => by
    have hk : o + k < c.toList.length := by simp at h ⊢; omega
    rw [List.zipIdx_cons, List.foldl_cons]
    rw [fold_set o us (k + 1) (c.setIfInBounds (o + k) u) (by simp at h ⊢; omega)]
    simp only [Array.toList_setIfInBounds]
    rw [← Nat.add_assoc, List.take_succ_eq_append_getElem (by simpa using hk)]
    simp only [List.getElem_set_self, List.append_assoc, List.cons_append, List.nil_append, List.length_cons]
    rw [List.take_set_of_le (Nat.le_refl _), List.drop_set_of_lt (by omega)]
    congr 4
    omega

/-- Parts laid into the cells of a struct or a slice. -/
theorem fill_ok {M : Mem} {sz : Nat} {place : Nat → Option (Nat × Nat)} : ∀ (parts : List (Nat × Value)) (ds : List D) (xs : List D) (cs : Array Value), CellsOK M sz xs cs.toList →
    ds.length = parts.length → (∀ (j : Nat) (p : Nat × Value) (d : D), parts[j]? = some p → ds[j]? = some d → place p.1 = some (p.1 * sz, sz) ∧ p.1 < xs.length ∧ d.width = sz ∧ Rep M d p.2) →
    ∃ cs' : Array Value, Instr.fill place cs parts = some cs' ∧ CellsOK M sz ((parts.zip ds).foldl (fun xs q => xs.set q.1.1 q.2) xs) cs'.toList
  | [], ds, xs, cs, h, hl, _ => ⟨cs, rfl, by simpa using h⟩
  | (i, v) :: rest, d :: ds, xs, cs, h, hl, hp => by
    obtain ⟨hpl, hi, hd, hr⟩ := hp 0 _ _ rfl rfl
    obtain ⟨hvs, hv1, hve⟩ := hr.cells_one
    simp only at hpl hi hr hvs hv1 hve
    have hb : i * sz + v.cells.size ≤ cs.size := by
      have := mul_succ_le (sz := sz) hi
      have h1 := h.1
      simp only [Array.length_toList] at h1
      omega
    have hsplice : (v.cells.zipIdx.foldl (fun cs (c, j) => cs.setIfInBounds (i * sz + j) c) cs).toList = cs.toList.take (i * sz) ++ v.cells.toList ++ cs.toList.drop (i * sz + v.cells.toList.length) := by
      rw [← Array.foldl_toList, Array.toList_zipIdx]
      have := fold_set (i * sz) v.cells.toList 0 cs (by simpa using hb)
      simpa using this
    have hset := cellsOK_set h hi hd (us := v.cells.toList) (by rw [Array.length_toList, hvs, hd]) hve
    rw [← hsplice] at hset
    obtain ⟨cs', h1, h2⟩ := fill_ok rest ds (xs.set i d) _ hset (by simpa using hl) (fun j p d' hj hd' => by
      obtain ⟨a, b, c, e⟩ := hp (j + 1) p d' (by simpa using hj) (by simpa using hd')
      exact ⟨a, by simpa using b, c, e⟩)
    refine ⟨cs', ?_, by simpa using h2⟩
    simp only [Instr.fill, hpl]
    rw [if_neg]
    · exact h1
    · have c1 : v.cells.size = sz := by rw [hvs, hd]
      rw [c1] at hb
      simp [c1]
      omega
end Go.DL
