/- Contracts of functions of the program, at this seat: what each call returns, by its arguments as data; each states its own conditions. -/
import Derived.Test.YthfagmoaoihhpaaU
namespace Go.DL
set_option maxRecDepth 100000
set_option maxHeartbeats 2000000
set_option linter.unusedSimpArgs false
set_option linter.unusedVariables false
open Go.RowKit Go.Proofs Go.Proofs.Ythfagmoaoihhpaa

def isChoiceP (m : ModelV) (picks : List PickV) : Prop := isModelP m ∧ picks ∈ choicesN m
/-- picks name the options in order, with a value of each. -/
def fullP (opts : List OptV) (picks : List PickV) : Prop := picks.length = opts.length ∧ ∀ (i : Nat) (o : OptV) (p : PickV), opts[i]? = some o → picks[i]? = some p → p.option = o.name ∧ p.value ∈ o.values
theorem mem_rows (opts : List OptV) : ∀ (n : Nat) (r : List PickV), n ≤ opts.length → (r ∈ rowsN (opts.take n) ↔ fullP (opts.take n) r)
  | 0, r, _ => by
    simp only [List.take_zero, rowsN, List.foldl_nil, List.mem_singleton, fullP, List.length_nil]
    constructor
    · rintro rfl; exact ⟨rfl, fun i o p h => by simp at h⟩
    · rintro ⟨h, _⟩; exact List.eq_nil_of_length_eq_zero h
  | n + 1, r, hn => by
    have ho : opts[n]? = some (opts[n]'(by omega)) := List.getElem?_eq_getElem (by omega)
    generalize opts[n]'(by omega) = o at ho
    have hl : (opts.take n).length = n := by simp; omega
    rw [rowsN_snoc ho, List.mem_flatMap]
    constructor
    · rintro ⟨row, hrow, hr⟩
      obtain ⟨v, hv, rfl⟩ := List.mem_map.1 hr
      have h1 := (mem_rows opts n row (by omega)).1 hrow
      have hrl : row.length = n := by rw [h1.1, hl]
      refine ⟨by simp [hrl]; omega, fun i o' p h2 h3 => ?_⟩
      obtain ⟨h6, hi⟩ := get_take h2
      rcases Nat.lt_or_ge i n with h4 | h4
      · rw [List.getElem?_append_left (by omega)] at h3
        exact h1.2 i o' p (by rw [List.getElem?_take, if_pos h4]; exact h6) h3
      · have e : i = n := by omega
        subst e
        rw [ho] at h6; cases h6
        rw [List.getElem?_append_right (by omega)] at h3
        simp [hrl] at h3
        subst h3
        exact ⟨rfl, hv⟩
    · rintro ⟨h1, h2⟩
      have hrl : r.length = n + 1 := by rw [h1]; simp; omega
      obtain ⟨p, hp⟩ : ∃ p, r[n]? = some p := ⟨r[n]'(by omega), by simp⟩
      have e : r = r.take n ++ [p] := by rw [← take_snoc hp, List.take_of_length_le (by omega)]
      obtain ⟨h3, h4⟩ := h2 n o p (by rw [List.getElem?_take, if_pos (by omega)]; exact ho) hp
      refine ⟨r.take n, (mem_rows opts n _ (by omega)).2 ⟨by simp; omega, fun i o' p' h5 h6 => ?_⟩, List.mem_map.2 ⟨p.value, h4, ?_⟩⟩
      · obtain ⟨h5, hi⟩ := get_take h5
        exact h2 i o' p' (by rw [List.getElem?_take, if_pos (by omega)]; exact h5) (get_take h6).1
      · rw [← h3]; exact e.symm
theorem mem_rowsN {opts : List OptV} {r : List PickV} : r ∈ rowsN opts ↔ fullP opts r := by
  have := mem_rows opts opts.length r (Nat.le_refl _)
  rwa [List.take_length] at this
theorem filter_none {l : List ByteArray} {x : ByteArray} (h : x ∉ l) : l.filter (fun v => tr (v = x)) = [] := by
  rw [List.filter_eq_nil_iff]
  intro v hv ht
  have e := tr_iff.1 ht
  exact h (e ▸ hv)
theorem filter_one {x : ByteArray} : ∀ {l : List ByteArray}, (∀ i j : Nat, l[i]? = some x → l[j]? = some x → i = j) → x ∈ l → l.filter (fun v => tr (v = x)) = [x]
  | [], _, h => by simp at h
  | y :: l, hu, h => by
    by_cases e : y = x
    · subst e
      have hn : y ∉ l := fun hm => by
        obtain ⟨j, hj⟩ := List.getElem?_of_mem hm
        have := hu 0 (j + 1) rfl (by simpa using hj)
        omega
      rw [List.filter_cons, tr_t rfl, if_pos rfl, filter_none hn]
    · have hm : x ∈ l := by
        rcases List.mem_cons.1 h with h1 | h1
        · exact absurd h1.symm e
        · exact h1
      rw [List.filter_cons, tr_f e]
      simp only [Bool.false_eq_true, if_false]
      exact filter_one (fun i j hi hj => by have := hu (i + 1) (j + 1) (by simpa using hi) (by simpa using hj); omega) hm
theorem distinct_uniq {l : List ByteArray} (h : distinctP l) {x : ByteArray} (i j : Nat) (hi : l[i]? = some x) (hj : l[j]? = some x) : i = j := by
  rcases Nat.lt_trichotomy i j with h1 | h1 | h1
  · exact absurd rfl ((h j x hj).2 i h1 x hi)
  · exact h1
  · exact absurd rfl ((h i x hi).2 j h1 x hj)
theorem names_uniq {m : ModelV} (h : isModelP m) {i j : Nat} {o o' : OptV} (hi : m.options[i]? = some o) (hj : m.options[j]? = some o') (e : o.name = o'.name) : i = j :=
  distinct_uniq h.2.2.2.2 i j (x := o.name) (by simp [hi]) (by simp [hj, e])
theorem fitV_full {m : ModelV} (h : isModelP m) {picks : List PickV} (hf : fullP m.options picks) {n : Nat} {o : OptV} {p : PickV} (ho : m.options[n]? = some o) (hp : picks[n]? = some p) (v : ByteArray) : fitV picks o v ↔ v = p.value := by
  have hpo := hf.2 n o p ho hp
  constructor
  · intro hv
    rcases hv p (get_mem hp) with h1 | h1
    · exact absurd hpo.1 h1
    · exact h1.symm
  · rintro rfl q hq
    obtain ⟨i, hi⟩ := List.getElem?_of_mem hq
    obtain ⟨o', ho'⟩ : ∃ o', m.options[i]? = some o' := ⟨m.options[i]'(by rw [← hf.1]; exact get_lt hi), by simp⟩
    have hqo := hf.2 i o' q ho' hi
    by_cases e : q.option = o.name
    · have : i = n := names_uniq h ho' ho (by rw [← hqo.1]; exact e)
      subst this
      rw [hp] at hi; cases hi
      exact .inr rfl
    · exact .inl e
theorem rowsF_full {m : ModelV} (h : isModelP m) {picks : List PickV} (hf : fullP m.options picks) : ∀ n, n ≤ m.options.length → rowsF picks (m.options.take n) = [picks.take n]
  | 0, _ => by simp [rowsF]
  | n + 1, hn => by
    have ho : m.options[n]? = some (m.options[n]'(by omega)) := List.getElem?_eq_getElem (by omega)
    generalize m.options[n]'(by omega) = o at ho
    obtain ⟨p, hp⟩ : ∃ p, picks[n]? = some p := ⟨picks[n]'(by rw [hf.1]; omega), by simp⟩
    have hpo := hf.2 n o p ho hp
    rw [rowsF_snoc ho, rowsF_full h hf n (by omega)]
    simp only [List.flatMap_cons, List.flatMap_nil, List.append_nil, extF]
    have e1 : (fun v => tr (fitV picks o v)) = fun v => tr (v = p.value) := by
      funext v; exact tr_congr (fitV_full h hf ho hp v)
    rw [e1, filter_one (distinct_uniq (h.2.2.1 o (get_mem ho)).2.2) hpo.2, take_snoc hp, ← hpo.1]
    rfl
theorem allN_full {m : ModelV} (h : isModelP m) {picks : List PickV} (hf : fullP m.options picks) : allN m picks = [picks].filter (fitsB m.rules) := by
  have := rowsF_full h hf m.options.length (Nat.le_refl _)
  rw [List.take_length, List.take_of_length_le (by rw [hf.1]; exact Nat.le_refl _)] at this
  unfold allN; rw [this]
theorem partial_of_full {m : ModelV} (h : isModelP m) {picks : List PickV} (hf : fullP m.options picks) : isPartialP m picks := by
  refine ⟨h, fun i p hp => ?_⟩
  obtain ⟨o, ho⟩ : ∃ o, m.options[i]? = some o := ⟨m.options[i]'(by rw [← hf.1]; exact get_lt hp), by simp⟩
  have hpo := hf.2 i o p ho hp
  refine ⟨⟨i, o, ?_, ho, ?_⟩, fun j hj q hq e => ?_⟩
  · refine findP_at ho hpo.1.symm (fun j hj o' ho' e => ?_)
    have := names_uniq h ho' ho (by rw [e, hpo.1])
    omega
  · rcases findP_cases (fun x => x = p.value) o.values with ⟨_, h2⟩ | ⟨k, x, h2, _⟩
    · exact absurd rfl (h2 p.value hpo.2)
    · omega
  · obtain ⟨o', ho'⟩ : ∃ o', m.options[j]? = some o' := ⟨m.options[j]'(by rw [← hf.1]; exact get_lt hq), by simp⟩
    have hqo := hf.2 j o' q ho' hq
    have := names_uniq h ho' ho (by rw [← hqo.1, ← hpo.1]; exact e)
    omega
theorem full_of_partial {m : ModelV} {picks : List PickV} (hp : isPartialP m picks) (hl : picks.length = m.options.length) (hn : allP picks fun i p => ∀ o, m.options[i]? = some o → p.option = o.name) : fullP m.options picks := by
  refine ⟨hl, fun i o p ho hpi => ⟨hn i p hpi o ho, ?_⟩⟩
  obtain ⟨⟨k, o', h1, h2, h3⟩, _⟩ := hp.2 i p hpi
  have hk : k = i := by
    rcases findP_cases (fun x : OptV => x.name = p.option) m.options with ⟨h4, _⟩ | ⟨j, x, h4, h5, h6, _⟩
    · unfold optIdx at h1; omega
    · have : j = k := by unfold optIdx at h1; omega
      subst this
      rw [h2] at h5; cases h5
      exact names_uniq hp.1 h2 ho (by rw [h6, hn i p hpi o ho])
  subst hk
  rw [ho] at h2; cases h2
  rcases findP_cases (fun x => x = p.value) o.values with ⟨h4, _⟩ | ⟨j, x, h4, h5, h6, _⟩
  · omega
  · rw [← h6]; exact get_mem h5
theorem choice_iff {m : ModelV} {picks : List PickV} : isChoiceP m picks ↔ isPartialP m picks ∧ picks.length = m.options.length ∧ (allP picks fun i p => ∀ o, m.options[i]? = some o → p.option = o.name) ∧ (allN m picks).length = 1 := by
  constructor
  · rintro ⟨h, hc⟩
    obtain ⟨h1, h2⟩ := List.mem_filter.1 hc
    have hf := mem_rowsN.1 h1
    refine ⟨partial_of_full h hf, hf.1, fun i p hp o ho => (hf.2 i o p ho hp).1, ?_⟩
    rw [allN_full h hf, List.filter_cons, h2]
    simp
  · rintro ⟨h1, h2, h3, h4⟩
    have hf := full_of_partial h1 h2 h3
    refine ⟨h1.1, List.mem_filter.2 ⟨mem_rowsN.2 hf, ?_⟩⟩
    rw [allN_full h1.1 hf, List.filter_cons] at h4
    split at h4
    · assumption
    · simp at h4

end Go.DL
